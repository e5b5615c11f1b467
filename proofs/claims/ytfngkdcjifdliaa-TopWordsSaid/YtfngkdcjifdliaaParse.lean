/- The walk of a set's reading: Parse, where the text says stretches. -/
import Derived.Test.YtfngkdcjifdliaaItem
import Derived.Test.YtfngkdcjifdliaaUnion
set_option linter.unusedVariables false
set_option linter.unusedSimpArgs false
set_option linter.unnecessarySimpa false
set_option linter.deprecated false
namespace Go.Proofs.Ytfngkdcjifdliaa
open Go.RowKit

/-- What a stretch says. -/
def itT (r : Nat × Nat) : List UInt8 := if r.1 = r.2 then signL r.1 else signL r.1 ++ 45 :: signL r.2
theorem signL_head (b : Nat) (hb : b ≤ 255) : ∃ x tl, signL b = x :: tl ∧ x ≠ 45 ∧ x ≠ 93 ∧ x ≠ 94 := by
  rcases sign_two b hb with ⟨h, k1, k2, k3, k4, k5, k6, k7⟩ | ⟨c, r, h, _⟩
  · refine ⟨_, _, h, ?_, ?_, ?_⟩
    all_goals
      intro e
      have := congrArg UInt8.toNat e
      rw [UInt8.toNat_ofNat'] at this
      simp at this
      omega
  · exact ⟨_, _, h, by decide, by decide, by decide⟩
theorem itT_head (r : Nat × Nat) (h : okR r) : ∃ x tl, itT r = x :: tl ∧ x ≠ 45 ∧ x ≠ 93 ∧ x ≠ 94 := by
  obtain ⟨x, tl, e, k⟩ := signL_head r.1 (by have := h.1; have := h.2; omega)
  unfold itT
  rw [e]
  split
  · exact ⟨x, tl, rfl, k⟩
  · exact ⟨x, _, rfl, k⟩
theorem its_head (l : List (Nat × Nat)) (h : ∀ r ∈ l, okR r) : ∃ x tl, l.flatMap itT ++ [93] = x :: tl ∧ x ≠ 45 ∧ x ≠ 94 ∧ (l ≠ [] → x ≠ 93) := by
  cases l with
  | nil => exact ⟨93, [], rfl, by decide, by decide, fun h => absurd rfl h⟩
  | cons r rs =>
    obtain ⟨x, tl, e, k⟩ := itT_head r (h r (List.mem_cons_self ..))
    exact ⟨x, tl ++ rs.flatMap itT ++ [93], by rw [List.flatMap_cons, e]; simp, k.1, k.2.2, fun _ => k.2.1⟩
theorem item_ok (rb : Nat) (text : ByteArray) (n : Nat) (r : Nat × Nat) (x : UInt8) (tl : List UInt8) (w : World) (hb : Blk w rb #[.string text, .int .i64 (n : Int)] 81) (hr : okR r) (hx : x ≠ 45) (ht : text.data.toList.drop n = itT r ++ x :: tl) (hs : text.size ≤ 100000) :
    Calls Try.prog 34 #[.pointer (some ⟨rb, 0, none⟩)] w (ItP rb text (n + (itT r).length) (rangeS r.1 r.2) w) := by
  obtain ⟨a, b⟩ := r
  unfold itT at *
  by_cases h : a = b
  · subst h
    simp only [if_true] at ht ⊢
    exact item_one rb text n a x tl w hb hr.2 hx ht hs
  · simp only [h, if_false] at ht ⊢
    have := item_two rb text n a b (x :: tl) w hb hr.1 hr.2 (by rw [ht]; simp) hs
    rw [show n + (signL a ++ 45 :: signL b).length = n + (signL a).length + 1 + (signL b).length by simp; omega]
    exact this

/-- The world while a set's text is read. -/
structure PsW (B : Nat) (text : ByteArray) (l : List (Nat × Nat)) (w : World) (u : Nat) (rest : List (Nat × Nat)) (d : St) (wr : World) : Prop where
  b : Blk wr (B + 2) #[.string text, .int .i64 (u : Int)] 81
  z : Blk wr B (svC zS) 24
  f : Blk wr (B + 1) #[.int .i64 0, .int .i64 0] 30
  o : Blk wr (B + 3) (svC d) 24
  below : Below B w wr
  ok : d.ok
  set : setOf rest d = setOf l zS
  text : text.data.toList.drop u = rest.flatMap itT ++ [93]
  oks : ∀ r ∈ rest, okR r
theorem Wrote.toBelow {rb B : Nat} {w W W' : World} (hw : Wrote (fun k _ => k = rb) W W') (hr : B ≤ rb) (h : Below B w W) (hB : B ≤ w.heap.size) : Below B w W' := by
  refine ⟨hw.os.trans h.os, hw.tape.trans h.tape, hw.output.trans h.output, Nat.le_trans h.size hw.size, fun k hk => ?_⟩
  have h1 := h.block k hk
  have hl : k < W.heap.size := by have := h.size; omega
  have h2 : W.heap[k]? = some (W.heap[k]'hl) := Array.getElem?_eq_getElem hl
  rw [hw.block k _ h2 (fun _ _ _ _ => by omega), ← h2, h1]
theorem _root_.Go.RowKit.Below.setAt {B k i : Nat} {a w : World} {v : Value} (h : Below B a w) (hk : B ≤ k) : Below B a (w.setCell ⟨k, i, none⟩ v) := h.setCell (p := ⟨k, i, none⟩) hk v
theorem PsW.next {B : Nat} {text : ByteArray} {l : List (Nat × Nat)} {w : World} {u : Nat} {r : Nat × Nat} {rs : List (Nat × Nat)} {d : St} {wr w2 W : World} (s : PsW B text l w u (r :: rs) d wr) (hB : B = w.heap.size)
    (hb : Blk w2 (B + 2) #[.string text, .int .i64 ((u + (itT r).length : Nat) : Int)] 81) (hw : Wrote (fun k _ => k = B + 2) wr w2) (h3 : Below w2.heap.size w2 W) :
    PsW B text l w (u + (itT r).length) rs (orS d (rangeS r.1 r.2)) ((((W.setCell ⟨B + 3, 0, none⟩ (.int .u64 ((orS d (rangeS r.1 r.2)).w0 : Int))).setCell ⟨B + 3, 1, none⟩ (.int .u64 ((orS d (rangeS r.1 r.2)).w1 : Int))).setCell ⟨B + 3, 2, none⟩ (.int .u64 ((orS d (rangeS r.1 r.2)).w2 : Int))).setCell ⟨B + 3, 3, none⟩ (.int .u64 ((orS d (rangeS r.1 r.2)).w3 : Int))) := by
  subst hB
  have hz := (hw.keepB s.z (by omega)).below h3
  have hf := (hw.keepB s.f (by omega)).below h3
  have ho := (hw.keepB s.o (by omega)).below h3
  have hbw := Wrote.toBelow hw (by omega) s.below (Nat.le_refl _)
  have hbb := below_next hbw h3
  have hlt := ho.lt
  refine ⟨?_, ?_, ?_, ?_, ?_, orS_ok s.ok (rangeS_ok _ _), s.set, ?_, fun q hq => s.oks q (List.mem_cons_of_mem _ hq)⟩
  · exact ((((hb.below h3).other (by omega)).other (by omega)).other (by omega)).other (by omega)
  · exact (((hz.other (by omega)).other (by omega)).other (by omega)).other (by omega)
  · exact (((hf.other (by omega)).other (by omega)).other (by omega)).other (by omega)
  · exact (((ho.set 0 _).set 1 _).set 2 _).set 3 _
  · exact (((hbb.setAt (by omega)).setAt (by omega)).setAt (by omega)).setAt (by omega)
  · have h1 := s.text
    rw [← List.drop_drop, h1, List.flatMap_cons, List.append_assoc, List.drop_append, List.drop_of_length_le (Nat.le_refl _)]
    simp
theorem PsW.done {text : ByteArray} {l : List (Nat × Nat)} {w : World} {u : Nat} {rest : List (Nat × Nat)} {d v : St} {W : World} (s : PsW w.heap.size text l w u rest d W) :
    Blk ((((((W.setCell ⟨w.heap.size, 0, none⟩ (.int .u64 (v.w0 : Int))).setCell ⟨w.heap.size, 1, none⟩ (.int .u64 (v.w1 : Int))).setCell ⟨w.heap.size, 2, none⟩ (.int .u64 (v.w2 : Int))).setCell ⟨w.heap.size, 3, none⟩ (.int .u64 (v.w3 : Int))).setCell ⟨w.heap.size + 1, 0, none⟩ (.int .i64 0)).setCell ⟨w.heap.size + 1, 1, none⟩ (.int .i64 0)) w.heap.size (svC v) 24 ∧ Blk ((((((W.setCell ⟨w.heap.size, 0, none⟩ (.int .u64 (v.w0 : Int))).setCell ⟨w.heap.size, 1, none⟩ (.int .u64 (v.w1 : Int))).setCell ⟨w.heap.size, 2, none⟩ (.int .u64 (v.w2 : Int))).setCell ⟨w.heap.size, 3, none⟩ (.int .u64 (v.w3 : Int))).setCell ⟨w.heap.size + 1, 0, none⟩ (.int .i64 0)).setCell ⟨w.heap.size + 1, 1, none⟩ (.int .i64 0)) (w.heap.size + 1) #[.int .i64 0, .int .i64 0] 30 ∧ Below w.heap.size w ((((((W.setCell ⟨w.heap.size, 0, none⟩ (.int .u64 (v.w0 : Int))).setCell ⟨w.heap.size, 1, none⟩ (.int .u64 (v.w1 : Int))).setCell ⟨w.heap.size, 2, none⟩ (.int .u64 (v.w2 : Int))).setCell ⟨w.heap.size, 3, none⟩ (.int .u64 (v.w3 : Int))).setCell ⟨w.heap.size + 1, 0, none⟩ (.int .i64 0)).setCell ⟨w.heap.size + 1, 1, none⟩ (.int .i64 0)) := by
  refine ⟨?_, ?_, ?_⟩
  · exact (((((s.z.set 0 _).set 1 _).set 2 _).set 3 _).other (by omega)).other (by omega)
  · exact (((((s.f.other (by omega)).other (by omega)).other (by omega)).other (by omega)).set 0 _).set 1 _
  · exact (((((s.below.setAt (by omega)).setAt (by omega)).setAt (by omega)).setAt (by omega)).setAt (by omega)).setAt (by omega)
theorem ret28 {R : Ending → World → Prop} {a : Act} {W : World} {k j : Nat} {s : St} (h2 : (a.tmps[2]?).getD undef = .pointer (some ⟨k, 0, none⟩)) (h3 : (a.tmps[3]?).getD undef = .pointer (some ⟨j, 0, none⟩)) (hd : a.defers = []) (hb : Blk W k (svC s) 24) (hf : Blk W j #[.int .i64 0, .int .i64 0] 30) (hR : R (.returned (.tuple #[sv s, .agg #[.int .i64 0, .int .i64 0]])) W) : bodyPost Try.prog Try.f28 R .ret a W := by
  have f0 : W.cell? ⟨k, 0, none⟩ = some (.int .u64 (s.w0 : Int)) := hb.cell 0
  have f1 : W.cell? ⟨k, 1, none⟩ = some (.int .u64 (s.w1 : Int)) := hb.cell 1
  have f2 : W.cell? ⟨k, 2, none⟩ = some (.int .u64 (s.w2 : Int)) := hb.cell 2
  have f3 : W.cell? ⟨k, 3, none⟩ = some (.int .u64 (s.w3 : Int)) := hb.cell 3
  have g0 : W.cell? ⟨j, 0, none⟩ = some (.int .i64 0) := hf.cell 0
  have g1 : W.cell? ⟨j, 1, none⟩ = some (.int .i64 0) := hf.cell 1
  refine ⟨hd, .tuple #[sv s, .agg #[.int .i64 0, .int .i64 0]], ?_, hR⟩
  simp [results, Try.results28, h2, h3, go_sem, f0, f1, f2, f3, g0, g1, Try.isAgg24, Try.sizeOf24, Try.isAgg30, Try.sizeOf30]


set_option maxHeartbeats 4000000 in
set_option maxRecDepth 100000 in
theorem parse_set (text : ByteArray) (l : List (Nat × Nat)) (w : World) (hl : ∀ r ∈ l, okR r) (ht : text.data.toList = 91 :: (l.flatMap itT ++ [93])) (hs : text.size ≤ 65536) :
    Calls Try.prog 28 #[.string text] w fun e w' => e = .returned (.tuple #[sv (setOf l zS), .agg #[.int .i64 0, .int .i64 0]]) ∧ Below w.heap.size w w' := by
  obtain ⟨x, tl, hx, hx1, hx2, _⟩ := its_head l hl
  have hsz : 1 < text.size := by rw [← size_len text, ht, hx]; simp
  have hsz0 : 0 < text.size := by omega
  have hszi : (1 : Int) < (text.size : Int) := by omega
  have hsi : ¬ (65536 : Int) < (text.size : Int) := by omega
  have h0 : text[0]'hsz0 = 91 := by rw [byte_at ht]; rfl
  have h1 : text[1]'hsz = x := by rw [byte_at ht]; simp [hx]
  have hemp : text.toList.isEmpty = false := by rw [ByteArray.toList_eq, ht]; rfl
  have hx4 : ((x.toNat : Int) == 94) = false := by
    rw [beq_eq_false_iff_ne]
    intro h
    apply hx2
    apply UInt8.toNat_inj.1
    show x.toNat = 94
    omega
  have HT := hide ht
  have HL := hide hl
  have HSZ := hide hs
  clear ht hl hx hx1 hx2
  go_enter Try.func28, Try.ntmps28
  have hps : PsW w.heap.size text l w 1 l zS ((((w.alloc (.cells #[.int .u64 0, .int .u64 0, .int .u64 0, .int .u64 0] 24)).alloc (.cells #[.int .i64 0, .int .i64 0] 30)).alloc (.cells #[.string text, .int .i64 1] 81)).alloc (.cells #[.int .u64 0, .int .u64 0, .int .u64 0, .int .u64 0] 24)) := by
    refine ⟨?_, ?_, ?_, ?_, ?_, zS_ok, rfl, by rw [HT.out]; rfl, HL.out⟩
    · have := (Blk.new ((w.alloc (.cells #[.int .u64 0, .int .u64 0, .int .u64 0, .int .u64 0] 24)).alloc (.cells #[.int .i64 0, .int .i64 0] 30)) #[.string text, .int .i64 1] 81).alloc (.cells #[.int .u64 0, .int .u64 0, .int .u64 0, .int .u64 0] 24)
      simpa using this
    · exact (((Blk.new w _ _).alloc _).alloc _).alloc _
    · have := ((Blk.new (w.alloc (.cells #[.int .u64 0, .int .u64 0, .int .u64 0, .int .u64 0] 24)) #[.int .i64 0, .int .i64 0] 30).alloc (.cells #[.string text, .int .i64 1] 81)).alloc (.cells #[.int .u64 0, .int .u64 0, .int .u64 0, .int .u64 0] 24)
      simpa using this
    · have := Blk.new (((w.alloc (.cells #[.int .u64 0, .int .u64 0, .int .u64 0, .int .u64 0] 24)).alloc (.cells #[.int .i64 0, .int .i64 0] 30)).alloc (.cells #[.string text, .int .i64 1] 81)) (svC zS) 24
      have e : (((w.alloc (.cells #[.int .u64 0, .int .u64 0, .int .u64 0, .int .u64 0] 24)).alloc (.cells #[.int .i64 0, .int .i64 0] 30)).alloc (.cells #[.string text, .int .i64 1] 81)).heap.size = w.heap.size + 3 := by simp
      rw [e] at this
      exact this
    · exact ((((Below.refl w.heap.size w).alloc (Nat.le_refl _) _).alloc (by simp) _).alloc (by simp; omega) _).alloc (by simp; omega) _
  have HPS := hide hps
  clear hps
  go_wp2_with fail
  go_loopg [] l.length (fun m wr => ∃ (u : Nat) (rest : List (Nat × Nat)) (d : St), Hid (m = rest.length) ∧ Hid (PsW w.heap.size text l w u rest d wr))
  case atStart => exact ⟨1, l, zS, hide rfl, HPS⟩
  case round =>
    obtain ⟨u, rest, d, hu, hr⟩ := hrel
    have hlen := congrArg List.length hr.out.text
    rw [List.length_drop, size_len text, List.length_append] at hlen
    have hus : u < text.size := by simp at hlen; omega
    have hui : (u : Int) < (text.size : Int) := by omega
    have hud : decide (text.size ≤ u) = false := decide_eq_false (by omega)
    have hu2 : (u : Int) + 1 ≤ 200000 := by have := HSZ.out; omega
    obtain ⟨y, yl, hy, hy1, _, hy3⟩ := its_head rest hr.out.oks
    have hcy : text[u]'hus = y := by
      rw [byte_at rfl]
      have h2 : text.data.toList[u]'(by rw [size_len text]; exact hus) = (text.data.toList.drop u)[0]'(by rw [List.length_drop, size_len text]; omega) := by rw [List.getElem_drop]; rfl
      rw [h2]
      simp only [hr.out.text, hy]
      rfl
    have e0 := hr.out.b.cell 0
    have e1 := hr.out.b.cell 1
    have el := hr.out.b.lt
    have ef := hr.out.b.free 1
    have o0 : wr.cell? ⟨w.heap.size + 3, 0, none⟩ = some (.int .u64 (d.w0 : Int)) := hr.out.o.cell 0
    have o1 : wr.cell? ⟨w.heap.size + 3, 1, none⟩ = some (.int .u64 (d.w1 : Int)) := hr.out.o.cell 1
    have o2 : wr.cell? ⟨w.heap.size + 3, 2, none⟩ = some (.int .u64 (d.w2 : Int)) := hr.out.o.cell 2
    have o3 : wr.cell? ⟨w.heap.size + 3, 3, none⟩ = some (.int .u64 (d.w3 : Int)) := hr.out.o.cell 3
    have oy0 := hr.out.o.free 0
    have oy1 := hr.out.o.free 1
    have oy2 := hr.out.o.free 2
    have oy3 := hr.out.o.free 3
    cases rest with
    | nil =>
      obtain ⟨rfl, _⟩ : y = 93 ∧ yl = [] := by simpa using hy.symm
      have hend : text.size = u + 1 := by simp at hlen; omega
      have hei : ¬ ((u : Int) + 1 < (text.size : Int)) := by omega
      have hej : ¬ (u + 1 < text.size) := by omega
      have hde : d = setOf l zS := hr.out.set
      have HF := hide (hr.out.done (v := d))
      have HHE := hide hend
      have HDE := hide hde
      have p0 : wr.cell? ⟨w.heap.size, 0, none⟩ = some (.int .u64 0) := hr.out.z.cell 0
      have p1 : wr.cell? ⟨w.heap.size, 1, none⟩ = some (.int .u64 0) := hr.out.z.cell 1
      have p2 : wr.cell? ⟨w.heap.size, 2, none⟩ = some (.int .u64 0) := hr.out.z.cell 2
      have p3 : wr.cell? ⟨w.heap.size, 3, none⟩ = some (.int .u64 0) := hr.out.z.cell 3
      have q0 := hr.out.z.free 0
      have q1 := hr.out.z.free 1
      have q2 := hr.out.z.free 2
      have q3 := hr.out.z.free 3
      have g0 := hr.out.f.cell 0
      have g1 := hr.out.f.cell 1
      have g2 := hr.out.f.free 0
      have g3 := hr.out.f.free 1
      clear hlen hy hy1 hy3 hend hde hu hr
      go_wp2_with fail
      exact ret28 (k := w.heap.size) (j := w.heap.size + 1) (s := d) rfl rfl rfl HF.out.1 HF.out.2.1 ⟨by rw [HDE.out], HF.out.2.2⟩
    | cons r rs =>
      have hy93 : y ≠ 93 := hy3 (by simp)
      have hym : ((y.toNat : Int) != 93) = true := by
        rw [bne_iff_ne]
        intro h
        apply hy93
        apply UInt8.toNat_inj.1
        show y.toNat = 93
        omega
      have hrk : okR r := hr.out.oks r (List.mem_cons_self ..)
      obtain ⟨x2, tl2, hx2, hx45, _, _⟩ := its_head rs (fun q hq => hr.out.oks q (List.mem_cons_of_mem _ hq))
      have htx : text.data.toList.drop u = itT r ++ x2 :: tl2 := by rw [hr.out.text, List.flatMap_cons, List.append_assoc, hx2]
      have HI := hide (item_ok (w.heap.size + 2) text u r x2 tl2 wr hr.out.b hrk hx45 htx (by have := HSZ.out; omega))
      have HR1 := hide (rangeS_ok r.1 r.2)
      have HD1 := hide hr.out.ok
      have HRR := hide hr.out
      clear hlen hy hy1 hy3 hy93 hrk hx2 hx45 htx hr o0 o1 o2 o3 oy0 oy1 oy2 oy3
      go_upto_region 11 with fail
      clear e0 e1 el ef
      go_wp2_with fail
      refine HI.out.mono ?_
      rintro e w2 ⟨rfl, hcw⟩
      have hz2 := hcw.out.2.keepB HRR.out.o (by omega)
      have hlt := hz2.lt
      have hn1 : Blk ((w2.alloc (.cells #[.int .u64 ((rangeS r.1 r.2).w0 : Int), .int .u64 ((rangeS r.1 r.2).w1 : Int), .int .u64 ((rangeS r.1 r.2).w2 : Int), .int .u64 ((rangeS r.1 r.2).w3 : Int)] 24)).alloc (.cells #[.int .i64 0, .int .i64 0] 30)) w2.heap.size (svC (rangeS r.1 r.2)) 24 := (Blk.new w2 (svC (rangeS r.1 r.2)) 24).alloc (.cells #[.int .i64 0, .int .i64 0] 30)
      have hn2 : Blk ((w2.alloc (.cells #[.int .u64 ((rangeS r.1 r.2).w0 : Int), .int .u64 ((rangeS r.1 r.2).w1 : Int), .int .u64 ((rangeS r.1 r.2).w2 : Int), .int .u64 ((rangeS r.1 r.2).w3 : Int)] 24)).alloc (.cells #[.int .i64 0, .int .i64 0] 30)) (w2.heap.size + 1) #[.int .i64 0, .int .i64 0] 30 := by
        have := Blk.new (w2.alloc (.cells (svC (rangeS r.1 r.2)) 24)) #[.int .i64 0, .int .i64 0] 30
        simp only [World.size_alloc] at this
        exact this
      have hn3 : Blk ((w2.alloc (.cells #[.int .u64 ((rangeS r.1 r.2).w0 : Int), .int .u64 ((rangeS r.1 r.2).w1 : Int), .int .u64 ((rangeS r.1 r.2).w2 : Int), .int .u64 ((rangeS r.1 r.2).w3 : Int)] 24)).alloc (.cells #[.int .i64 0, .int .i64 0] 30)) (w.heap.size + 3) (svC d) 24 := (hz2.alloc (.cells (svC (rangeS r.1 r.2)) 24)).alloc (.cells #[.int .i64 0, .int .i64 0] 30)
      have hb4 : Below w2.heap.size w2 ((w2.alloc (.cells #[.int .u64 ((rangeS r.1 r.2).w0 : Int), .int .u64 ((rangeS r.1 r.2).w1 : Int), .int .u64 ((rangeS r.1 r.2).w2 : Int), .int .u64 ((rangeS r.1 r.2).w3 : Int)] 24)).alloc (.cells #[.int .i64 0, .int .i64 0] 30)) := ((Below.refl w2.heap.size w2).alloc (Nat.le_refl _) (.cells (svC (rangeS r.1 r.2)) 24)).alloc (by simp) (.cells #[.int .i64 0, .int .i64 0] 30)
      go_upto_region 12 with fail
      generalize ((w2.alloc (.cells #[.int .u64 ((rangeS r.1 r.2).w0 : Int), .int .u64 ((rangeS r.1 r.2).w1 : Int), .int .u64 ((rangeS r.1 r.2).w2 : Int), .int .u64 ((rangeS r.1 r.2).w3 : Int)] 24)).alloc (.cells #[.int .i64 0, .int .i64 0] 30)) = w4 at hn1 hn2 hn3 hb4 ⊢
      have z1 := hn2.cell 1
      have k0 : w4.cell? ⟨w2.heap.size, 0, none⟩ = some (.int .u64 ((rangeS r.1 r.2).w0 : Int)) := hn1.cell 0
      have k1 : w4.cell? ⟨w2.heap.size, 1, none⟩ = some (.int .u64 ((rangeS r.1 r.2).w1 : Int)) := hn1.cell 1
      have k2 : w4.cell? ⟨w2.heap.size, 2, none⟩ = some (.int .u64 ((rangeS r.1 r.2).w2 : Int)) := hn1.cell 2
      have k3 : w4.cell? ⟨w2.heap.size, 3, none⟩ = some (.int .u64 ((rangeS r.1 r.2).w3 : Int)) := hn1.cell 3
      have d0 : w4.cell? ⟨w.heap.size + 3, 0, none⟩ = some (.int .u64 (d.w0 : Int)) := hn3.cell 0
      have d1 : w4.cell? ⟨w.heap.size + 3, 1, none⟩ = some (.int .u64 (d.w1 : Int)) := hn3.cell 1
      have d2 : w4.cell? ⟨w.heap.size + 3, 2, none⟩ = some (.int .u64 (d.w2 : Int)) := hn3.cell 2
      have d3 : w4.cell? ⟨w.heap.size + 3, 3, none⟩ = some (.int .u64 (d.w3 : Int)) := hn3.cell 3
      have HN3 := hide hn3
      have HB4 := hide hb4
      have HCW := hide hcw.out
      clear hn1 hn2 hn3 hb4 hcw hz2 hlt
      go_wp2_with fail
      refine (Union_any d (rangeS r.1 r.2) HD1.out HR1.out _).mono ?_
      rintro e w5 ⟨rfl, hb5⟩
      have hn5 := HN3.out.below hb5
      have HP := hide (HRR.out.next rfl HCW.out.1 HCW.out.2 (below_next HB4.out hb5))
      have o0 : w5.cell? ⟨w.heap.size + 3, 0, none⟩ = some (.int .u64 (d.w0 : Int)) := hn5.cell 0
      have o1 : w5.cell? ⟨w.heap.size + 3, 1, none⟩ = some (.int .u64 (d.w1 : Int)) := hn5.cell 1
      have o2 : w5.cell? ⟨w.heap.size + 3, 2, none⟩ = some (.int .u64 (d.w2 : Int)) := hn5.cell 2
      have o3 : w5.cell? ⟨w.heap.size + 3, 3, none⟩ = some (.int .u64 (d.w3 : Int)) := hn5.cell 3
      have oy0 := hn5.free 0
      have oy1 := hn5.free 1
      have oy2 := hn5.free 2
      have oy3 := hn5.free 3
      clear hn5 hb5 HN3 z1 k0 k1 k2 k3 d0 d1 d2 d3
      go_wp2_with fail
      go_roundg rs.length
      case measure => rw [hu.out]; simp
      case rel => exact ⟨_, rs, _, hide rfl, HP⟩
end Go.Proofs.Ytfngkdcjifdliaa
