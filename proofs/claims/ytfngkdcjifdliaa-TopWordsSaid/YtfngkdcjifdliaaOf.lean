/- The walk of Of: the set of some bytes. -/
import Derived.Test.YtfngkdcjifdliaaUnion
set_option linter.unusedVariables false
set_option linter.unusedSimpArgs false
set_option linter.unnecessarySimpa false
set_option linter.deprecated false
namespace Go.Proofs.Ytfngkdcjifdliaa
open Go.RowKit

structure OfRel (w : World) (bs : List Nat) (i : Nat) (wr : World) : Prop where
  below : Below w.heap.size w wr
  res : Blk wr w.heap.size (svC zS) 24
  set : Blk wr (w.heap.size + 1) (svC ((bs.take i).foldl addB zS)) 24
  ok : ((bs.take i).foldl addB zS).ok
theorem foldl_ok : ∀ (l : List Nat) (s : St), s.ok → (l.foldl addB s).ok
  | [], _, h => h
  | b :: bs, s, h => foldl_ok bs _ (addB_ok h b)
set_option maxHeartbeats 4000000 in
set_option maxRecDepth 100000 in
theorem Of_any (bs : List Nat) (k o c : Nat) (w : World) (hk : k < w.heap.size) (hb : ∀ b ∈ bs, b < 256) (hl : bs.length ≤ 100000) (hc : ∀ i (h : i < bs.length), w.cell? ⟨k, o + i, none⟩ = some (.int .u8 (bs[i] : Int))) :
    Calls Try.prog 8 #[.slice (some ⟨k, o, none⟩) bs.length c] w fun e w' => e = .returned (sv (bs.foldl addB zS)) ∧ Below w.heap.size w w' := by
  have hb0 := ((Below.refl w.heap.size w).alloc (Nat.le_refl _) (.cells (svC zS) 24)).alloc (by simp) (.cells (svC zS) 24)
  have hn1 : Blk ((w.alloc (.cells (svC zS) 24)).alloc (.cells (svC zS) 24)) w.heap.size (svC zS) 24 := (Blk.new w _ _).alloc _
  have hn2 : Blk ((w.alloc (.cells (svC zS) 24)).alloc (.cells (svC zS) 24)) (w.heap.size + 1) (svC zS) 24 := by
    have := Blk.new (w.alloc (.cells (svC zS) 24)) (svC zS) 24
    rw [World.size_alloc] at this
    exact this
  have HR0 := hide (show OfRel w bs 0 ((w.alloc (.cells (svC zS) 24)).alloc (.cells (svC zS) 24)) from ⟨hb0, hn1, by rw [List.take_zero]; exact hn2, by rw [List.take_zero]; exact zS_ok⟩)
  have HC := hide hc
  have HBB := hide hb
  have HK := hide hk
  clear hb0 hn1 hn2 hc hb hk
  go_enter Try.func8, Try.ntmps8
  go_upto_region 2 with fail
  rw [show ((w.alloc (.cells #[.int .u64 0, .int .u64 0, .int .u64 0, .int .u64 0] 24)).alloc (.cells #[.int .u64 0, .int .u64 0, .int .u64 0, .int .u64 0] 24)) = ((w.alloc (.cells (svC zS) 24)).alloc (.cells (svC zS) 24)) from rfl]
  generalize ((w.alloc (.cells (svC zS) 24)).alloc (.cells (svC zS) 24)) = w0 at HR0 ⊢
  go_wp2_with fail
  go_loopg [8] bs.length (fun u v8 wr => ∃ i : Nat, Hid (u = bs.length - i) ∧ v8 = .int .i64 (i : Int) ∧ i ≤ bs.length ∧ Hid (OfRel w bs i wr))
  case atStart => exact ⟨0, rfl, rfl, by omega, HR0⟩
  case round =>
    obtain ⟨i, hu, rfl, hi1, hr⟩ := hrel
    by_cases hih : i < bs.length
    · have hihi : (i : Int) < (bs.length : Int) := by omega
      obtain ⟨b, hbe⟩ : ∃ b, bs[i] = b := ⟨_, rfl⟩
      have hb256 : b < 256 := by rw [← hbe]; exact HBB.out _ (List.getElem_mem hih)
      have hcb := HC.out i hih
      rw [hbe] at hcb
      have hcw := (hr.out.below.cell (p := ⟨k, o + i, none⟩) HK.out).trans hcb
      have hkw : k < wr.heap.size := Nat.lt_of_lt_of_le HK.out hr.out.below.size
      have hq : b / 64 < 4 := by omega
      obtain ⟨s, hs⟩ : ∃ s, (bs.take i).foldl addB zS = s := ⟨_, rfl⟩
      have hset := hr.out.set
      have hok := hr.out.ok
      rw [hs] at hset hok
      have hcs : wr.cell? ⟨w.heap.size + 1, b / 64, none⟩ = some (.int .u64 (s.word (b / 64) : Int)) := by
        rw [hset.cell]; exact svC_at _ _ hq
      have hfs := hset.free (b / 64)
      have hls := hset.lt
      have hwk := word_ok hok (b / 64)
      have HN := hide (show OfRel w bs (i + 1) (wr.setCell ⟨w.heap.size + 1, b / 64, none⟩ (.int .u64 (bits .or .u64 (s.word (b / 64) : Int) (IntKind.u64.wrap (2 ^ (b % 64)))))) from
        ⟨hr.out.below.setCell (p := ⟨w.heap.size + 1, b / 64, none⟩) (by show w.heap.size ≤ w.heap.size + 1; omega) _, hr.out.res.other (by omega), by
          rw [List.take_succ_eq_append_getElem hih, List.foldl_append, hs, hbe, bits_shl _ _ hwk (Nat.mod_lt _ (by decide))]
          have := hset.set (b / 64) (.int .u64 ((s.word (b / 64) ||| 2 ^ (b % 64) : Nat) : Int))
          rw [sv_put _ _ _ hq] at this
          exact this, by rw [List.take_succ_eq_append_getElem hih, List.foldl_append, hs, hbe]; exact addB_ok hok b⟩)
      clear hr hok hset hwk hs hbe hcb
      generalize s.word (b / 64) = x at *
      go_wp2_with fail
      go_roundg (bs.length - (i + 1))
      case measure => rw [hu.out]; omega
      case rel => exact ⟨i + 1, rfl, by go_num, by omega, HN⟩
    · obtain rfl : i = bs.length := by omega
      have hihi : ¬ (bs.length : Int) < (bs.length : Int) := by omega
      have hset := hr.out.set
      have hres := hr.out.res
      have HB := hide hr.out.below
      rw [List.take_length] at hset
      obtain ⟨q, hqe⟩ : ∃ q, bs.foldl addB zS = q := ⟨_, rfl⟩
      rw [hqe] at hset
      have HQE := hide hqe
      clear hqe
      have e0 := hset.cell 0
      have e1 := hset.cell 1
      have e2 := hset.cell 2
      have e3 := hset.cell 3
      have el := hset.lt
      have f0 := hres.free 0
      have f1 := hres.free 1
      have f2 := hres.free 2
      have f3 := hres.free 3
      have g0 := hres.cell 0
      have g1 := hres.cell 1
      have g2 := hres.cell 2
      have g3 := hres.cell 3
      have gl := hres.lt
      have HRS := hide hres
      clear hr hset hres
      go_wp2_with fail
      refine ret8 (k := w.heap.size) (s := q) rfl rfl ?_ ?_
      · exact (((HRS.out.set 0 _).set 1 _).set 2 _).set 3 _
      · refine ⟨by rw [HQE.out], ?_⟩
        exact ((((HB.out.setCell (p := ⟨w.heap.size, 0, none⟩) (Nat.le_refl _) _).setCell (p := ⟨w.heap.size, 1, none⟩) (Nat.le_refl _) _).setCell (p := ⟨w.heap.size, 2, none⟩) (Nat.le_refl _) _).setCell (p := ⟨w.heap.size, 3, none⟩) (Nat.le_refl _) _)
end Go.Proofs.Ytfngkdcjifdliaa
