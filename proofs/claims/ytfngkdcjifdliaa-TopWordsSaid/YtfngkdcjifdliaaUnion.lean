/- The walks of Union and Of. -/
import Derived.Test.YtfngkdcjifdliaaSets
set_option linter.unusedVariables false
set_option linter.unusedSimpArgs false
set_option linter.unnecessarySimpa false
set_option linter.deprecated false
namespace Go.Proofs.Ytfngkdcjifdliaa
open Go.RowKit

theorem ret35 {R : Ending → World → Prop} {a : Act} {W : World} {k : Nat} {s : St} (h4 : (a.tmps[4]?).getD undef = .pointer (some ⟨k, 0, none⟩)) (hd : a.defers = []) (hb : Blk W k (svC s) 24) (hR : R (.returned (sv s)) W) : bodyPost Try.prog Try.f35 R .ret a W := by
  have f0 : W.cell? ⟨k, 0, none⟩ = some (.int .u64 (s.w0 : Int)) := hb.cell 0
  have f1 : W.cell? ⟨k, 1, none⟩ = some (.int .u64 (s.w1 : Int)) := hb.cell 1
  have f2 : W.cell? ⟨k, 2, none⟩ = some (.int .u64 (s.w2 : Int)) := hb.cell 2
  have f3 : W.cell? ⟨k, 3, none⟩ = some (.int .u64 (s.w3 : Int)) := hb.cell 3
  refine ⟨hd, sv s, ?_, hR⟩
  simp [results, Try.results35, h4, go_sem, f0, f1, f2, f3, Try.isAgg24, Try.sizeOf24]
theorem ret8 {R : Ending → World → Prop} {a : Act} {W : World} {k : Nat} {s : St} (h4 : (a.tmps[2]?).getD undef = .pointer (some ⟨k, 0, none⟩)) (hd : a.defers = []) (hb : Blk W k (svC s) 24) (hR : R (.returned (sv s)) W) : bodyPost Try.prog Try.f8 R .ret a W := by
  have f0 : W.cell? ⟨k, 0, none⟩ = some (.int .u64 (s.w0 : Int)) := hb.cell 0
  have f1 : W.cell? ⟨k, 1, none⟩ = some (.int .u64 (s.w1 : Int)) := hb.cell 1
  have f2 : W.cell? ⟨k, 2, none⟩ = some (.int .u64 (s.w2 : Int)) := hb.cell 2
  have f3 : W.cell? ⟨k, 3, none⟩ = some (.int .u64 (s.w3 : Int)) := hb.cell 3
  refine ⟨hd, sv s, ?_, hR⟩
  simp [results, Try.results8, h4, go_sem, f0, f1, f2, f3, Try.isAgg24, Try.sizeOf24]

/-- As far as a word, two sets together. -/
def orTo (i : Nat) (s t : St) : St := ⟨if 0 < i then s.w0 ||| t.w0 else s.w0, if 1 < i then s.w1 ||| t.w1 else s.w1, if 2 < i then s.w2 ||| t.w2 else s.w2, if 3 < i then s.w3 ||| t.w3 else s.w3⟩
theorem orTo_4 (s t : St) : orTo 4 s t = orS s t := rfl
theorem orTo_0 (s t : St) : orTo 0 s t = s := rfl
theorem orTo_succ (s t : St) (i : Nat) (h : i < 4) : (orTo i s t).put i (s.word i ||| t.word i) = orTo (i + 1) s t := by
  have : i = 0 ∨ i = 1 ∨ i = 2 ∨ i = 3 := by omega
  rcases this with rfl | rfl | rfl | rfl <;> rfl
theorem orTo_word (s t : St) (i : Nat) (h : i < 4) : (orTo i s t).word i = s.word i := by
  have : i = 0 ∨ i = 1 ∨ i = 2 ∨ i = 3 := by omega
  rcases this with rfl | rfl | rfl | rfl <;> rfl
structure UnRel (w : World) (s t : St) (i : Nat) (wr : World) : Prop where
  below : Below w.heap.size w wr
  a : Blk wr w.heap.size (svC (orTo i s t)) 24
  b : Blk wr (w.heap.size + 1) (svC t) 24
  c : Blk wr (w.heap.size + 2) (svC zS) 24
  le : i ≤ 4

set_option maxHeartbeats 4000000 in
set_option maxRecDepth 100000 in
theorem Union_any (s t : St) (hs : s.ok) (ht : t.ok) (w : World) : Calls Try.prog 35 #[sv s, sv t] w fun e w' => e = .returned (sv (orS s t)) ∧ Below w.heap.size w w' := by
  have hb0 := (((Below.refl w.heap.size w).alloc (Nat.le_refl _) (.cells (svC s) 24)).alloc (by simp) (.cells (svC t) 24)).alloc (by simp; omega) (.cells (svC zS) 24)
  have hn1 : Blk (((w.alloc (.cells (svC s) 24)).alloc (.cells (svC t) 24)).alloc (.cells (svC zS) 24)) w.heap.size (svC s) 24 := ((Blk.new w _ _).alloc _).alloc _
  have hn2 : Blk (((w.alloc (.cells (svC s) 24)).alloc (.cells (svC t) 24)).alloc (.cells (svC zS) 24)) (w.heap.size + 1) (svC t) 24 := by
    have := (Blk.new (w.alloc (.cells (svC s) 24)) (svC t) 24).alloc (.cells (svC zS) 24)
    rw [World.size_alloc] at this
    exact this
  have hn3 : Blk (((w.alloc (.cells (svC s) 24)).alloc (.cells (svC t) 24)).alloc (.cells (svC zS) 24)) (w.heap.size + 2) (svC zS) 24 := by
    have := Blk.new ((w.alloc (.cells (svC s) 24)).alloc (.cells (svC t) 24)) (svC zS) 24
    rw [World.size_alloc, World.size_alloc] at this
    exact this
  have HR0 := hide (show UnRel w s t 0 _ from ⟨hb0, hn1, hn2, hn3, Nat.zero_le _⟩)
  clear hb0 hn1 hn2 hn3
  go_enter Try.func35, Try.ntmps35
  go_upto_region 1 with fail
  generalize hWW : ((w.alloc (.cells (svC s) 24)).alloc (.cells (svC t) 24)).alloc (.cells (svC zS) 24) = w0 at HR0
  have hWW2 : ((w.alloc (.cells (svC s) 24)).alloc (.cells (svC t) 24)).alloc (.cells #[.int .u64 0, .int .u64 0, .int .u64 0, .int .u64 0] 24) = w0 := hWW
  rw [hWW2]
  clear hWW hWW2
  go_wp2_with fail
  go_loopg [6] 4 (fun u v6 wr => ∃ i : Nat, Hid (u = 4 - i) ∧ v6 = .int .i64 (i : Int) ∧ Hid (UnRel w s t i wr))
  case atStart => exact ⟨0, rfl, rfl, HR0⟩
  case round =>
    obtain ⟨i, hu, rfl, hr⟩ := hrel
    have hi4 := hr.out.le
    by_cases hi : i < 4
    · have hii : (i : Int) < 4 := by omega
      have ca : wr.cell? ⟨w.heap.size, i, none⟩ = some (.int .u64 (s.word i : Int)) := by
        rw [hr.out.a.cell, svC_at _ _ hi, orTo_word _ _ _ hi]
      have cb : wr.cell? ⟨w.heap.size + 1, i, none⟩ = some (.int .u64 (t.word i : Int)) := by
        rw [hr.out.b.cell, svC_at _ _ hi]
      have fa := hr.out.a.free i
      have la := hr.out.a.lt
      have lb := hr.out.b.lt
      have HN := hide (show UnRel w s t (i + 1) (wr.setCell ⟨w.heap.size, i, none⟩ (.int .u64 (bits .or .u64 (s.word i : Int) (t.word i : Int)))).drew from
        ⟨Below.drew (hr.out.below.setCell (p := ⟨w.heap.size, i, none⟩) (Nat.le_refl _) _), by
          have := hr.out.a.set i (.int .u64 (bits .or .u64 (s.word i : Int) (t.word i : Int)))
          rw [bits_or _ _ (word_ok hs i) (word_ok ht i), sv_put _ _ _ hi, orTo_succ _ _ _ hi] at this
          rw [bits_or _ _ (word_ok hs i) (word_ok ht i)]
          exact this, hr.out.b.other (by omega), hr.out.c.other (by omega), hi⟩)
      clear hr
      generalize s.word i = x at *
      generalize t.word i = y at *
      go_upto_region 4 with fail
      go_region
      go_wp2_with fail
      go_roundg (4 - (i + 1))
      case measure => rw [hu.out]; omega
      case rel => exact ⟨i + 1, rfl, by go_num, HN⟩
    · obtain rfl : i = 4 := by omega
      have hii : ¬ ((4 : Nat) : Int) < 4 := by omega
      have ha := hr.out.a
      rw [orTo_4] at ha
      have HB := hide hr.out.below
      have hc := hr.out.c
      have HC := hide hc
      obtain ⟨q, hq⟩ : ∃ q, orS s t = q := ⟨_, rfl⟩
      rw [hq] at ha
      have HE := hide hq
      clear hq
      have e0 := ha.cell 0
      have e1 := ha.cell 1
      have e2 := ha.cell 2
      have e3 := ha.cell 3
      have el := ha.lt
      have f0 := hc.free 0
      have f1 := hc.free 1
      have f2 := hc.free 2
      have f3 := hc.free 3
      have g0 := hc.cell 0
      have g1 := hc.cell 1
      have g2 := hc.cell 2
      have g3 := hc.cell 3
      have gl := hc.lt
      clear hr ha hc
      go_wp2_with fail
      refine ret35 (k := w.heap.size + 2) (s := q) rfl rfl ?_ ?_
      · exact (((HC.out.set 0 _).set 1 _).set 2 _).set 3 _
      · refine ⟨by rw [HE.out], ?_⟩
        exact ((((HB.out.setCell (p := ⟨w.heap.size + 2, 0, none⟩) (by show w.heap.size ≤ w.heap.size + 2; omega) _).setCell (p := ⟨w.heap.size + 2, 1, none⟩) (by show w.heap.size ≤ w.heap.size + 2; omega) _).setCell (p := ⟨w.heap.size + 2, 2, none⟩) (by show w.heap.size ≤ w.heap.size + 2; omega) _).setCell (p := ⟨w.heap.size + 2, 3, none⟩) (by show w.heap.size ≤ w.heap.size + 2; omega) _)
end Go.Proofs.Ytfngkdcjifdliaa
