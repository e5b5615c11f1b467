/- The walk of the set's reader: item, where it reads a run. -/
import Derived.Test.YtfngkdcjifdliaaChar
import Derived.Test.YtfngkdcjifdliaaSets
set_option linter.unusedVariables false
set_option linter.unusedSimpArgs false
set_option linter.unnecessarySimpa false
set_option linter.deprecated false
namespace Go.Proofs.Ytfngkdcjifdliaa
open Go.RowKit

theorem Wrote.keepB {rb k : Nat} {c : Array Value} {T : TypeId} {W W' : World} (hw : Wrote (fun k _ => k = rb) W W') (h : Blk W k c T) (hk : k ≠ rb) : Blk W' k c T := hw.block k _ h (fun _ _ _ _ => hk)
theorem Wrote.set_new {rb k i : Nat} {v : Value} {w W : World} (hw : Wrote (fun k _ => k = rb) w W) (hk : w.heap.size ≤ k) : Wrote (fun k _ => k = rb) w (W.setCell ⟨k, i, none⟩ v) := by
  refine ⟨hw.os, hw.tape, hw.output, by rw [size_setCell]; exact hw.size, fun j o hj hp => ?_⟩
  have hl := (Array.getElem?_eq_some_iff.1 hj).1
  rw [Below.heap_setCell _ _ _ _ (show j ≠ k by omega)]
  exact hw.block j o hj hp
/-- The world while an item is read. -/
structure ItW (rb h m : Nat) (text : ByteArray) (u : Int) (w W : World) : Prop where
  b : Blk W rb #[.string text, .int .i64 u] 81
  z : Blk W h (svC zS) 24
  f : Blk W (h + 1) #[.int .i64 0, .int .i64 0] 30
  g : Blk W m #[.int .i64 0, .int .i64 0] 30
  wr : Wrote (fun k _ => k = rb) w W
namespace ItW
variable {rb h m : Nat} {text : ByteArray} {u u' : Int} {w W W' : World}
theorem called (s : ItW rb h m text u w W) (hr : rb < w.heap.size) (hh : w.heap.size ≤ h) (hm : w.heap.size ≤ m) (hb : Blk W' rb #[.string text, .int .i64 u'] 81) (hw : Wrote (fun k _ => k = rb) W W') : ItW rb h m text u' w W' :=
  ⟨hb, hw.keepB s.z (by omega), hw.keepB s.f (by omega), hw.keepB s.g (by omega), s.wr.trans hw⟩
theorem below (s : ItW rb h m text u w W) (hw : Below W.heap.size W W') : ItW rb h m text u w W' := ⟨s.b.below hw, s.z.below hw, s.f.below hw, s.g.below hw, s.wr.trans (Wrote.of_below hw)⟩
theorem at_ (s : ItW rb h m text u w W) (hr : rb < w.heap.size) (hh : w.heap.size ≤ h) (hm : w.heap.size ≤ m) : ItW rb h m text u' w (W.setCell ⟨rb, 1, none⟩ (.int .i64 u')) := s.called hr hh hm (s.b.set 1 _) (wrote_set s.b)
theorem stored (s : ItW rb h m text u w W) (hr : rb < w.heap.size) (hh : w.heap.size ≤ h) (hm : w.heap.size ≤ m) (hne : h + 1 < m) : ItW rb h m text u w ((W.setCell ⟨m, 0, none⟩ (.int .i64 0)).setCell ⟨m, 1, none⟩ (.int .i64 0)) :=
  ⟨(s.b.other (by omega)).other (by omega), (s.z.other (by omega)).other (by omega), (s.f.other (by omega)).other (by omega), (s.g.set 0 _).set 1 _, (s.wr.set_new hm).set_new hm⟩
theorem done (s : ItW rb w.heap.size m text u w W) (hr : rb < w.heap.size) (v : St) :
    Blk ((((((W.setCell ⟨w.heap.size, 0, none⟩ (.int .u64 (v.w0 : Int))).setCell ⟨w.heap.size, 1, none⟩ (.int .u64 (v.w1 : Int))).setCell ⟨w.heap.size, 2, none⟩ (.int .u64 (v.w2 : Int))).setCell ⟨w.heap.size, 3, none⟩ (.int .u64 (v.w3 : Int))).setCell ⟨w.heap.size + 1, 0, none⟩ (.int .i64 0)).setCell ⟨w.heap.size + 1, 1, none⟩ (.int .i64 0)) w.heap.size (svC v) 24 ∧
    Blk ((((((W.setCell ⟨w.heap.size, 0, none⟩ (.int .u64 (v.w0 : Int))).setCell ⟨w.heap.size, 1, none⟩ (.int .u64 (v.w1 : Int))).setCell ⟨w.heap.size, 2, none⟩ (.int .u64 (v.w2 : Int))).setCell ⟨w.heap.size, 3, none⟩ (.int .u64 (v.w3 : Int))).setCell ⟨w.heap.size + 1, 0, none⟩ (.int .i64 0)).setCell ⟨w.heap.size + 1, 1, none⟩ (.int .i64 0)) (w.heap.size + 1) #[.int .i64 0, .int .i64 0] 30 ∧
    Blk ((((((W.setCell ⟨w.heap.size, 0, none⟩ (.int .u64 (v.w0 : Int))).setCell ⟨w.heap.size, 1, none⟩ (.int .u64 (v.w1 : Int))).setCell ⟨w.heap.size, 2, none⟩ (.int .u64 (v.w2 : Int))).setCell ⟨w.heap.size, 3, none⟩ (.int .u64 (v.w3 : Int))).setCell ⟨w.heap.size + 1, 0, none⟩ (.int .i64 0)).setCell ⟨w.heap.size + 1, 1, none⟩ (.int .i64 0)) rb #[.string text, .int .i64 u] 81 ∧
    Wrote (fun k _ => k = rb) w ((((((W.setCell ⟨w.heap.size, 0, none⟩ (.int .u64 (v.w0 : Int))).setCell ⟨w.heap.size, 1, none⟩ (.int .u64 (v.w1 : Int))).setCell ⟨w.heap.size, 2, none⟩ (.int .u64 (v.w2 : Int))).setCell ⟨w.heap.size, 3, none⟩ (.int .u64 (v.w3 : Int))).setCell ⟨w.heap.size + 1, 0, none⟩ (.int .i64 0)).setCell ⟨w.heap.size + 1, 1, none⟩ (.int .i64 0)) := by
  refine ⟨?_, ?_, ?_, ?_⟩
  · exact (((((s.z.set 0 _).set 1 _).set 2 _).set 3 _).other (by omega)).other (by omega)
  · exact (((((s.f.other (by omega)).other (by omega)).other (by omega)).other (by omega)).set 0 _).set 1 _
  · exact (((((s.b.other (by omega)).other (by omega)).other (by omega)).other (by omega)).other (by omega)).other (by omega)
  · exact (((((s.wr.set_new (by omega)).set_new (by omega)).set_new (by omega)).set_new (by omega)).set_new (by omega)).set_new (by omega)
end ItW

/-- What an item's reading answers. -/
def ItP (rb : Nat) (text : ByteArray) (n : Nat) (s : St) (w : World) (e : Ending) (w' : World) : Prop := e = .returned (.tuple #[sv s, .agg #[.int .i64 0, .int .i64 0]]) ∧ Hid (Blk w' rb #[.string text, .int .i64 (n : Int)] 81 ∧ Wrote (fun k _ => k = rb) w w')
theorem ret34 {R : Ending → World → Prop} {a : Act} {W : World} {k j : Nat} {s : St} (h2 : (a.tmps[2]?).getD undef = .pointer (some ⟨k, 0, none⟩)) (h3 : (a.tmps[3]?).getD undef = .pointer (some ⟨j, 0, none⟩)) (hd : a.defers = []) (hb : Blk W k (svC s) 24) (hf : Blk W j #[.int .i64 0, .int .i64 0] 30) (hR : R (.returned (.tuple #[sv s, .agg #[.int .i64 0, .int .i64 0]])) W) : bodyPost Try.prog Try.f34 R .ret a W := by
  have f0 : W.cell? ⟨k, 0, none⟩ = some (.int .u64 (s.w0 : Int)) := hb.cell 0
  have f1 : W.cell? ⟨k, 1, none⟩ = some (.int .u64 (s.w1 : Int)) := hb.cell 1
  have f2 : W.cell? ⟨k, 2, none⟩ = some (.int .u64 (s.w2 : Int)) := hb.cell 2
  have f3 : W.cell? ⟨k, 3, none⟩ = some (.int .u64 (s.w3 : Int)) := hb.cell 3
  have g0 : W.cell? ⟨j, 0, none⟩ = some (.int .i64 0) := hf.cell 0
  have g1 : W.cell? ⟨j, 1, none⟩ = some (.int .i64 0) := hf.cell 1
  refine ⟨hd, .tuple #[sv s, .agg #[.int .i64 0, .int .i64 0]], ?_, hR⟩
  simp [results, Try.results34, h2, h3, go_sem, f0, f1, f2, f3, g0, g1, Try.isAgg24, Try.sizeOf24, Try.isAgg30, Try.sizeOf30]

set_option maxHeartbeats 4000000 in
set_option maxRecDepth 100000 in
theorem item_one (rb : Nat) (text : ByteArray) (n b : Nat) (x : UInt8) (rest : List UInt8) (w : World) (hb : Blk w rb #[.string text, .int .i64 (n : Int)] 81) (h255 : b < 256) (hx : x ≠ 45) (ht : text.data.toList.drop n = signL b ++ x :: rest) (hs : text.size ≤ 100000) :
    Calls Try.prog 34 #[.pointer (some ⟨rb, 0, none⟩)] w (ItP rb text (n + (signL b).length) (rangeS b b) w) := by
  have hlen := congrArg List.length ht
  rw [List.length_drop, List.length_append, size_len text, List.length_cons] at hlen
  obtain ⟨n1, hn1⟩ : ∃ n1, n + (signL b).length = n1 := ⟨_, rfl⟩
  have HC := hide (fun W (hB : Blk W rb #[.string text, .int .i64 (n : Int)] 81) => (hn1 ▸ char_ok rb text n b (x :: rest) W hB (by omega) ht hs : Calls Try.prog 38 #[.pointer (some ⟨rb, 0, none⟩)] W (RdP rb text n1 (b : Int) W)))
  have hns : n1 < text.size := by omega
  have hni : (n1 : Int) < (text.size : Int) := by omega
  have hnd : decide (text.size ≤ n1) = false := decide_eq_false (by omega)
  have hnt : decide (n1 < text.size) = true := decide_eq_true hns
  have hcx : text[n1]'hns = x := by
    rw [byte_at rfl]
    have h1 := List.getElem_drop (xs := text.data.toList) (i := n) (j := (signL b).length) (h := by rw [List.length_drop, size_len text]; omega)
    have h2 : text.data.toList[n1]'(by rw [size_len text]; exact hns) = (text.data.toList.drop n)[(signL b).length]'(by rw [List.length_drop, size_len text]; omega) := by rw [h1]; simp only [hn1]
    rw [h2]
    simp only [ht]
    rw [List.getElem_append_right (Nat.le_refl _)]
    simp
  have hxe : ((x.toNat : Int) == 45) = false := by
    rw [beq_eq_false_iff_ne]
    intro h
    apply hx
    apply UInt8.toNat_inj.1
    show x.toNat = 45
    omega
  have HR := hide (Range_any b b (Nat.le_refl _) h255)
  rw [hn1]
  have HB := hide hb
  have e0 := hb.cell 0
  have e1 := hb.cell 1
  have el := hb.lt
  have f1 := hb.free 1
  have HE := hide el
  clear hlen ht hb hx
  go_enter Try.func34, Try.ntmps34
  go_wp2_with fail
  have hb1 : Blk ((w.alloc (.cells #[.int .u64 0, .int .u64 0, .int .u64 0, .int .u64 0] 24)).alloc (.cells #[.int .i64 0, .int .i64 0] 30)) rb #[.string text, .int .i64 (n : Int)] 81 := (HB.out.alloc _).alloc _
  have hz1 : Blk ((w.alloc (.cells #[.int .u64 0, .int .u64 0, .int .u64 0, .int .u64 0] 24)).alloc (.cells #[.int .i64 0, .int .i64 0] 30)) w.heap.size (svC zS) 24 := (Blk.new w _ _).alloc _
  have hf1 : Blk ((w.alloc (.cells #[.int .u64 0, .int .u64 0, .int .u64 0, .int .u64 0] 24)).alloc (.cells #[.int .i64 0, .int .i64 0] 30)) (w.heap.size + 1) #[.int .i64 0, .int .i64 0] 30 := by
    have := Blk.new (w.alloc (.cells #[.int .u64 0, .int .u64 0, .int .u64 0, .int .u64 0] 24)) #[.int .i64 0, .int .i64 0] 30
    simpa using this
  have hw1 : Wrote (fun k _ => k = rb) w ((w.alloc (.cells #[.int .u64 0, .int .u64 0, .int .u64 0, .int .u64 0] 24)).alloc (.cells #[.int .i64 0, .int .i64 0] 30)) := (Wrote.alloc _ _ _).trans (Wrote.alloc _ _ _)
  generalize ((w.alloc (.cells #[.int .u64 0, .int .u64 0, .int .u64 0, .int .u64 0] 24)).alloc (.cells #[.int .i64 0, .int .i64 0] 30)) = w1 at hb1 hz1 hf1 hw1 ⊢
  have hws := hf1.lt
  refine (HC.out _ hb1).mono ?_
  rintro e w2 ⟨rfl, hcw⟩
  have hz2 := hcw.out.2.keepB hz1 (by have := HE.out; omega)
  have hf2 := hcw.out.2.keepB hf1 (by have := HE.out; omega)
  have hm : w.heap.size + 1 < w2.heap.size := hf2.lt
  have HM := hide hm
  have hm2 : w.heap.size ≤ w2.heap.size := by omega
  have HM2 := hide hm2
  have HI := hide (show ItW rb w.heap.size w2.heap.size text (n1 : Int) w (w2.alloc (.cells #[.int .i64 0, .int .i64 0] 30)) from ⟨hcw.out.1.alloc _, hz2.alloc _, hf2.alloc _, Blk.new w2 _ _, (hw1.trans hcw.out.2).trans (Wrote.alloc _ _ _)⟩)
  have HI2 := HI
  clear hb1 hz1 hf1 hw1 hws hz2 hf2 hm hm2 hcw e0 e1 el f1
  have z0 := HI.out.g.cell 0
  have z1 := HI.out.g.cell 1
  have y0 := HI.out.g.free 0
  have y1 := HI.out.g.free 1
  go_upto_region 3 with fail
  have HI3 := HI2
  have hi3 := HI3.out
  generalize w2.alloc (.cells #[.int .i64 0, .int .i64 0] 30) = w3 at hi3 HI3 ⊢
  clear HI HI2 z0 z1 y0 y1
  have e0 := hi3.b.cell 0
  have e1 := hi3.b.cell 1
  have el := hi3.b.lt
  have f1 := hi3.b.free 1
  have z0 := hi3.g.cell 0
  have z1 := hi3.g.cell 1
  have y0 := hi3.g.free 0
  have y1 := hi3.g.free 1
  have gl := hi3.g.lt
  clear hi3
  go_upto_region 6 with fail
  go_quiet (fail)
  go_upto_region 11 with fail
  clear e0 e1 el f1 z0 z1 y0 y1
  have HI4 := hide (HI3.out.below (below_drewN (Below.refl _ _) nq))
  generalize w3.drewN nq = w4 at HI4 ⊢
  go_upto_region 14 with (go_at_call 39; refine (HR.out _).mono ?_; rintro e w5 ⟨rfl, hb5⟩)
  have hI5 := HI4.out.below hb5
  have hx5 : w2.heap.size < w5.heap.size := hI5.g.lt
  have hI6 := hI5.below ((Below.refl w5.heap.size w5).alloc (Nat.le_refl _) (.cells (svC (rangeS b b)) 24))
  have hc := Blk.new w5 (svC (rangeS b b)) 24
  change ItW _ _ _ _ _ _ (w5.alloc (.cells #[.int .u64 ((rangeS b b).w0 : Int), .int .u64 ((rangeS b b).w1 : Int), .int .u64 ((rangeS b b).w2 : Int), .int .u64 ((rangeS b b).w3 : Int)] 24)) at hI6
  change Blk (w5.alloc (.cells #[.int .u64 ((rangeS b b).w0 : Int), .int .u64 ((rangeS b b).w1 : Int), .int .u64 ((rangeS b b).w2 : Int), .int .u64 ((rangeS b b).w3 : Int)] 24)) _ _ _ at hc
  generalize w5.alloc (.cells #[.int .u64 ((rangeS b b).w0 : Int), .int .u64 ((rangeS b b).w1 : Int), .int .u64 ((rangeS b b).w2 : Int), .int .u64 ((rangeS b b).w3 : Int)] 24) = w6 at hI6 hc ⊢
  have k0 : w6.cell? ⟨w5.heap.size, 0, none⟩ = some (.int .u64 ((rangeS b b).w0 : Int)) := hc.cell 0
  have k1 : w6.cell? ⟨w5.heap.size, 1, none⟩ = some (.int .u64 ((rangeS b b).w1 : Int)) := hc.cell 1
  have k2 : w6.cell? ⟨w5.heap.size, 2, none⟩ = some (.int .u64 ((rangeS b b).w2 : Int)) := hc.cell 2
  have k3 : w6.cell? ⟨w5.heap.size, 3, none⟩ = some (.int .u64 ((rangeS b b).w3 : Int)) := hc.cell 3
  have z0 : w6.cell? ⟨w.heap.size, 0, none⟩ = some (.int .u64 0) := hI6.z.cell 0
  have z1 : w6.cell? ⟨w.heap.size, 1, none⟩ = some (.int .u64 0) := hI6.z.cell 1
  have z2 : w6.cell? ⟨w.heap.size, 2, none⟩ = some (.int .u64 0) := hI6.z.cell 2
  have z3 : w6.cell? ⟨w.heap.size, 3, none⟩ = some (.int .u64 0) := hI6.z.cell 3
  have y0 := hI6.z.free 0
  have y1 := hI6.z.free 1
  have y2 := hI6.z.free 2
  have y3 := hI6.z.free 3
  have g0 : w6.cell? ⟨w.heap.size + 1, 0, none⟩ = some (.int .i64 0) := hI6.f.cell 0
  have g1 : w6.cell? ⟨w.heap.size + 1, 1, none⟩ = some (.int .i64 0) := hI6.f.cell 1
  have h0 := hI6.f.free 0
  have h1 := hI6.f.free 1
  have HF := hide (hI6.done HE.out (rangeS b b))
  clear hI5 hx5 hI6 hc hb5
  go_wp2_with fail
  exact ret34 (k := w.heap.size) (j := w.heap.size + 1) (s := rangeS b b) rfl rfl rfl HF.out.1 HF.out.2.1 ⟨rfl, hide HF.out.2.2⟩

set_option maxHeartbeats 4000000 in
set_option maxRecDepth 100000 in
theorem item_two (rb : Nat) (text : ByteArray) (n b c : Nat) (rest : List UInt8) (w : World) (hb : Blk w rb #[.string text, .int .i64 (n : Int)] 81) (hbc : b ≤ c) (h255 : c < 256) (ht : text.data.toList.drop n = signL b ++ 45 :: (signL c ++ rest)) (hs : text.size ≤ 100000) :
    Calls Try.prog 34 #[.pointer (some ⟨rb, 0, none⟩)] w (ItP rb text (n + (signL b).length + 1 + (signL c).length) (rangeS b c) w) := by
  have hlen := congrArg List.length ht
  rw [List.length_drop, List.length_append, size_len text, List.length_cons, List.length_append] at hlen
  obtain ⟨n1, hn1⟩ : ∃ n1, n + (signL b).length = n1 := ⟨_, rfl⟩
  have HC := hide (fun W (hB : Blk W rb #[.string text, .int .i64 (n : Int)] 81) => (hn1 ▸ char_ok rb text n b (45 :: (signL c ++ rest)) W hB (by omega) ht hs : Calls Try.prog 38 #[.pointer (some ⟨rb, 0, none⟩)] W (RdP rb text n1 (b : Int) W)))
  have hns : n1 < text.size := by omega
  have hni : (n1 : Int) < (text.size : Int) := by omega
  have hnd : decide (text.size ≤ n1) = false := decide_eq_false (by omega)
  have hnt : decide (n1 < text.size) = true := decide_eq_true hns
  have ht2 : text.data.toList.drop (n1 + 1) = signL c ++ rest := by
    have h := congrArg (List.drop ((signL b).length + 1)) ht
    rw [List.drop_drop, ← Nat.add_assoc, hn1] at h
    rw [h, ← List.drop_drop, List.drop_append, List.drop_of_length_le (Nat.le_refl _)]
    simp
  obtain ⟨n3, hn3⟩ : ∃ n3, n1 + 1 + (signL c).length = n3 := ⟨_, rfl⟩
  have HC2 := hide (fun W (hB : Blk W rb #[.string text, .int .i64 ((n1 + 1 : Nat) : Int)] 81) => (hn3 ▸ char_ok rb text (n1 + 1) c rest W hB (by omega) ht2 hs : Calls Try.prog 38 #[.pointer (some ⟨rb, 0, none⟩)] W (RdP rb text n3 (c : Int) W)))
  have hni2 : (n1 : Int) + 1 ≤ 200000 := by omega
  have hcx : text[n1]'hns = 45 := by
    rw [byte_at rfl]
    have h1 := List.getElem_drop (xs := text.data.toList) (i := n) (j := (signL b).length) (h := by rw [List.length_drop, size_len text]; omega)
    have h2 : text.data.toList[n1]'(by rw [size_len text]; exact hns) = (text.data.toList.drop n)[(signL b).length]'(by rw [List.length_drop, size_len text]; omega) := by rw [h1]; simp only [hn1]
    rw [h2]
    simp only [ht]
    rw [List.getElem_append_right (Nat.le_refl _)]
    simp
  have HR := hide (Range_any b c hbc h255)
  rw [hn1, hn3]
  have HB := hide hb
  have e0 := hb.cell 0
  have e1 := hb.cell 1
  have el := hb.lt
  have f1 := hb.free 1
  have HE := hide el
  clear hlen ht ht2 hb hn3
  go_enter Try.func34, Try.ntmps34
  go_wp2_with fail
  have hb1 : Blk ((w.alloc (.cells #[.int .u64 0, .int .u64 0, .int .u64 0, .int .u64 0] 24)).alloc (.cells #[.int .i64 0, .int .i64 0] 30)) rb #[.string text, .int .i64 (n : Int)] 81 := (HB.out.alloc _).alloc _
  have hz1 : Blk ((w.alloc (.cells #[.int .u64 0, .int .u64 0, .int .u64 0, .int .u64 0] 24)).alloc (.cells #[.int .i64 0, .int .i64 0] 30)) w.heap.size (svC zS) 24 := (Blk.new w _ _).alloc _
  have hf1 : Blk ((w.alloc (.cells #[.int .u64 0, .int .u64 0, .int .u64 0, .int .u64 0] 24)).alloc (.cells #[.int .i64 0, .int .i64 0] 30)) (w.heap.size + 1) #[.int .i64 0, .int .i64 0] 30 := by
    have := Blk.new (w.alloc (.cells #[.int .u64 0, .int .u64 0, .int .u64 0, .int .u64 0] 24)) #[.int .i64 0, .int .i64 0] 30
    simpa using this
  have hw1 : Wrote (fun k _ => k = rb) w ((w.alloc (.cells #[.int .u64 0, .int .u64 0, .int .u64 0, .int .u64 0] 24)).alloc (.cells #[.int .i64 0, .int .i64 0] 30)) := (Wrote.alloc _ _ _).trans (Wrote.alloc _ _ _)
  generalize ((w.alloc (.cells #[.int .u64 0, .int .u64 0, .int .u64 0, .int .u64 0] 24)).alloc (.cells #[.int .i64 0, .int .i64 0] 30)) = w1 at hb1 hz1 hf1 hw1 ⊢
  have hws := hf1.lt
  refine (HC.out _ hb1).mono ?_
  rintro e w2 ⟨rfl, hcw⟩
  have hz2 := hcw.out.2.keepB hz1 (by have := HE.out; omega)
  have hf2 := hcw.out.2.keepB hf1 (by have := HE.out; omega)
  have hm : w.heap.size + 1 < w2.heap.size := hf2.lt
  have HM := hide hm
  have hm2 : w.heap.size ≤ w2.heap.size := by omega
  have HM2 := hide hm2
  have HI := hide (show ItW rb w.heap.size w2.heap.size text (n1 : Int) w (w2.alloc (.cells #[.int .i64 0, .int .i64 0] 30)) from ⟨hcw.out.1.alloc _, hz2.alloc _, hf2.alloc _, Blk.new w2 _ _, (hw1.trans hcw.out.2).trans (Wrote.alloc _ _ _)⟩)
  have HI2 := HI
  clear hb1 hz1 hf1 hw1 hws hz2 hf2 hm hm2 hcw e0 e1 el f1
  have z0 := HI.out.g.cell 0
  have z1 := HI.out.g.cell 1
  have y0 := HI.out.g.free 0
  have y1 := HI.out.g.free 1
  go_upto_region 3 with fail
  have HI3 := HI2
  have hi3 := HI3.out
  generalize w2.alloc (.cells #[.int .i64 0, .int .i64 0] 30) = w3 at hi3 HI3 ⊢
  clear HI HI2 z0 z1 y0 y1
  have e0 := hi3.b.cell 0
  have e1 := hi3.b.cell 1
  have el := hi3.b.lt
  have f1 := hi3.b.free 1
  have z0 := hi3.g.cell 0
  have z1 := hi3.g.cell 1
  have y0 := hi3.g.free 0
  have y1 := hi3.g.free 1
  have gl := hi3.g.lt
  clear hi3
  go_upto_region 6 with fail
  go_quiet (fail)
  go_upto_region 7 with fail
  have HI4 := hide (HI3.out.below (below_drewN (Below.refl _ _) nq))
  have hi4 := HI4.out
  generalize w3.drewN nq = w4 at HI4 hi4 ⊢
  clear e0 e1 el f1 z0 z1 y0 y1
  have e0 := hi4.b.cell 0
  have e1 := hi4.b.cell 1
  have el := hi4.b.lt
  have f1 := hi4.b.free 1
  have z0 := hi4.g.cell 0
  have z1 := hi4.g.cell 1
  have y0 := hi4.g.free 0
  have y1 := hi4.g.free 1
  have gl := hi4.g.lt
  clear hi4
  go_upto_region 8 with fail
  have hj := HI4.out.at_ (u' := (n1 : Int) + 1) HE.out (Nat.le_refl _) HM2.out
  generalize w4.setCell ⟨rb, 1, none⟩ (.int .i64 ((n1 : Int) + 1)) = v1 at hj ⊢
  have HJ := hide hj
  clear hj e0 e1 el f1 z0 z1 y0 y1 HI4
  go_wp2_with fail
  refine (HC2.out _ HJ.out.b).mono ?_
  rintro e v2 ⟨rfl, hcv⟩
  have HJ2 := hide (HJ.out.called HE.out (Nat.le_refl _) HM2.out hcv.out.1 hcv.out.2)
  have hj2 := HJ2.out
  have e0 := hj2.b.cell 0
  have e1 := hj2.b.cell 1
  have el := hj2.b.lt
  have f1 := hj2.b.free 1
  have z0 := hj2.g.cell 0
  have z1 := hj2.g.cell 1
  have y0 := hj2.g.free 0
  have y1 := hj2.g.free 1
  have gl := hj2.g.lt
  have HI4 := hide (HJ2.out.stored HE.out (Nat.le_refl _) HM2.out HM.out)
  clear hj2 hcv HJ2
  go_upto_region 9 with fail
  have hi4 := HI4.out
  generalize (v2.setCell ⟨w2.heap.size, 0, none⟩ (.int .i64 0)).setCell ⟨w2.heap.size, 1, none⟩ (.int .i64 0) = w4 at HI4 hi4 ⊢
  clear e0 e1 el f1 z0 z1 y0 y1
  have e0 := hi4.b.cell 0
  have e1 := hi4.b.cell 1
  have el := hi4.b.lt
  have f1 := hi4.b.free 1
  have z0 := hi4.g.cell 0
  have z1 := hi4.g.cell 1
  have y0 := hi4.g.free 0
  have y1 := hi4.g.free 1
  have gl := hi4.g.lt
  clear hi4
  go_upto_region 14 with (go_at_call 39; refine (HR.out _).mono ?_; rintro e w5 ⟨rfl, hb5⟩)
  have hI5 := HI4.out.below hb5
  have hx5 : w2.heap.size < w5.heap.size := hI5.g.lt
  have hI6 := hI5.below ((Below.refl w5.heap.size w5).alloc (Nat.le_refl _) (.cells (svC (rangeS b c)) 24))
  have hc := Blk.new w5 (svC (rangeS b c)) 24
  change ItW _ _ _ _ _ _ (w5.alloc (.cells #[.int .u64 ((rangeS b c).w0 : Int), .int .u64 ((rangeS b c).w1 : Int), .int .u64 ((rangeS b c).w2 : Int), .int .u64 ((rangeS b c).w3 : Int)] 24)) at hI6
  change Blk (w5.alloc (.cells #[.int .u64 ((rangeS b c).w0 : Int), .int .u64 ((rangeS b c).w1 : Int), .int .u64 ((rangeS b c).w2 : Int), .int .u64 ((rangeS b c).w3 : Int)] 24)) _ _ _ at hc
  generalize w5.alloc (.cells #[.int .u64 ((rangeS b c).w0 : Int), .int .u64 ((rangeS b c).w1 : Int), .int .u64 ((rangeS b c).w2 : Int), .int .u64 ((rangeS b c).w3 : Int)] 24) = w6 at hI6 hc ⊢
  have k0 : w6.cell? ⟨w5.heap.size, 0, none⟩ = some (.int .u64 ((rangeS b c).w0 : Int)) := hc.cell 0
  have k1 : w6.cell? ⟨w5.heap.size, 1, none⟩ = some (.int .u64 ((rangeS b c).w1 : Int)) := hc.cell 1
  have k2 : w6.cell? ⟨w5.heap.size, 2, none⟩ = some (.int .u64 ((rangeS b c).w2 : Int)) := hc.cell 2
  have k3 : w6.cell? ⟨w5.heap.size, 3, none⟩ = some (.int .u64 ((rangeS b c).w3 : Int)) := hc.cell 3
  have z0 : w6.cell? ⟨w.heap.size, 0, none⟩ = some (.int .u64 0) := hI6.z.cell 0
  have z1 : w6.cell? ⟨w.heap.size, 1, none⟩ = some (.int .u64 0) := hI6.z.cell 1
  have z2 : w6.cell? ⟨w.heap.size, 2, none⟩ = some (.int .u64 0) := hI6.z.cell 2
  have z3 : w6.cell? ⟨w.heap.size, 3, none⟩ = some (.int .u64 0) := hI6.z.cell 3
  have y0 := hI6.z.free 0
  have y1 := hI6.z.free 1
  have y2 := hI6.z.free 2
  have y3 := hI6.z.free 3
  have g0 : w6.cell? ⟨w.heap.size + 1, 0, none⟩ = some (.int .i64 0) := hI6.f.cell 0
  have g1 : w6.cell? ⟨w.heap.size + 1, 1, none⟩ = some (.int .i64 0) := hI6.f.cell 1
  have h0 := hI6.f.free 0
  have h1 := hI6.f.free 1
  have HF := hide (hI6.done HE.out (rangeS b c))
  clear hI5 hx5 hI6 hc hb5
  go_wp2_with fail
  exact ret34 (k := w.heap.size) (j := w.heap.size + 1) (s := rangeS b c) rfl rfl rfl HF.out.1 HF.out.2.1 ⟨rfl, hide HF.out.2.2⟩
end Go.Proofs.Ytfngkdcjifdliaa
