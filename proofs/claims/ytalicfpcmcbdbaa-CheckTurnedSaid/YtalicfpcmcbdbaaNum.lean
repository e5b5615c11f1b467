/- The walk of num. -/
import Derived.Test.YtalicfpcmcbdbaaChw
set_option linter.unusedVariables false
set_option linter.unusedSimpArgs false
set_option linter.unnecessarySimpa false
set_option linter.deprecated false
namespace Go.Proofs.Ytalicfpcmcbdbaa
open Go.RowKit

def syE : Sy := ⟨3, ⟨#[]⟩, zS, ⟨#[69]⟩, ⟨#[]⟩⟩
def syOf (n : ByteArray) : Sy := ⟨3, ⟨#[]⟩, zS, n, ⟨#[]⟩⟩
def syP : Sy := ⟨1, ⟨#[43]⟩, zS, ⟨#[]⟩, ⟨#[]⟩⟩
def syS : Sy := ⟨6, ⟨#[]⟩, ⟨1, 0, 0, 0⟩, ⟨#[]⟩, ⟨#[]⟩⟩
def numPs (n : ByteArray) : List Pd := [⟨false, ⟨#[69]⟩, ⟨#[65]⟩, false, [syE, syP, syE]⟩, ⟨false, ⟨#[69]⟩, ⟨#[78]⟩, false, [syOf n]⟩, ⟨true, ⟨#[78]⟩, ⟨#[]⟩, false, [syS]⟩]
/-- The fixed definition; n: what the second production names. -/
def numD (n : ByteArray) : Df := ⟨⟨#[69]⟩, ⟨#[]⟩, numPs n, [], [], [], []⟩
theorem Blk.cellsAt {W : World} {b : Nat} {c : Array Value} {t : TypeId} (h : Blk W b c t) (o : Nat) (cs : List Value) (hc : (c.toList.drop o).take cs.length = cs) : CellsAt cs b o W := by
  intro j u hj
  rw [h.cell (o + j)]
  have hjl : j < cs.length := (List.getElem?_eq_some_iff.1 hj).1
  rw [← hc, List.getElem?_take, if_pos hjl, List.getElem?_drop] at hj
  rw [← hj]; simp
structure NumAt (n : ByteArray) (k : Nat) (W : World) : Prop where
  b0 : Blk W k #[.int .i64 3, .string ⟨#[]⟩, .int .u64 0, .int .u64 0, .int .u64 0, .int .u64 0, .string ⟨#[69]⟩, .string ⟨#[]⟩, .int .i64 1, .string ⟨#[43]⟩, .int .u64 0, .int .u64 0, .int .u64 0, .int .u64 0, .string ⟨#[]⟩, .string ⟨#[]⟩, .int .i64 3, .string ⟨#[]⟩, .int .u64 0, .int .u64 0, .int .u64 0, .int .u64 0, .string ⟨#[69]⟩, .string ⟨#[]⟩] 61
  b1 : Blk W (k + 1) #[.int .i64 3, .string ⟨#[]⟩, .int .u64 0, .int .u64 0, .int .u64 0, .int .u64 0, .string n, .string ⟨#[]⟩] 61
  b2 : Blk W (k + 2) #[.int .i64 6, .string ⟨#[]⟩, .int .u64 1, .int .u64 0, .int .u64 0, .int .u64 0, .string ⟨#[]⟩, .string ⟨#[]⟩] 61
  b3 : Blk W (k + 3) #[.bool false, .string ⟨#[69]⟩, .string ⟨#[65]⟩, .bool false, .slice (some ⟨k, 0, none⟩) 3 3, .bool false, .string ⟨#[69]⟩, .string ⟨#[78]⟩, .bool false, .slice (some ⟨k + 1, 0, none⟩) 1 1, .bool true, .string ⟨#[78]⟩, .string ⟨#[]⟩, .bool false, .slice (some ⟨k + 2, 0, none⟩) 1 1] 38
theorem NumAt.below {n : ByteArray} {k : Nat} {W W' : World} (h : NumAt n k W) (hb : Below W.heap.size W W') : NumAt n k W' := ⟨h.b0.below hb, h.b1.below hb, h.b2.below hb, h.b3.below hb⟩
theorem short_lit (s : ByteArray) (h : s.size < 100 := by decide) : short s := by unfold short; omega
theorem sz0 : short (⟨#[]⟩ : ByteArray) := by unfold short; decide
theorem sz69 : short (⟨#[69]⟩ : ByteArray) := by unfold short; decide
theorem sz78 : short (⟨#[78]⟩ : ByteArray) := by unfold short; decide
theorem sz65 : short (⟨#[65]⟩ : ByteArray) := by unfold short; decide
theorem syE_ok : syE.ok := ⟨by unfold i64; decide, sz0, zS_ok, sz69, sz0⟩
theorem syP_ok : syP.ok := ⟨by unfold i64; decide, by unfold short; decide, zS_ok, sz0, sz0⟩
theorem syS_ok : syS.ok := ⟨by unfold i64; decide, sz0, ⟨by decide, by decide, by decide, by decide⟩, sz0, sz0⟩
theorem i64_3 : i64 3 := by unfold i64; decide
theorem syOf_ok {n : ByteArray} (h : short n) : (syOf n).ok := ⟨i64_3, sz0, zS_ok, h, sz0⟩
theorem NumAt.rd {n : ByteArray} {k : Nat} {W : World} (h : NumAt n k W) (hn : short n) : RD (numD n) ⟨some ⟨k + 3, 0, none⟩, 3, none, 0, none, 0, none, 0, none, 0⟩ W := by
  have r0 : Row SyAt 8 [syE, syP, syE] (some ⟨k, 0, none⟩) W := ⟨by simp, fun _ => ⟨k, 0, rfl, h.b0.lt, fun i hi => by
    match i, hi with
    | 0, _ => exact ⟨syE_ok, h.b0.cellsAt 0 _ rfl⟩
    | 1, _ => exact ⟨syP_ok, h.b0.cellsAt 8 _ rfl⟩
    | 2, _ => exact ⟨syE_ok, h.b0.cellsAt 16 _ rfl⟩⟩⟩
  have r1 : Row SyAt 8 [syOf n] (some ⟨k + 1, 0, none⟩) W := ⟨by simp, fun _ => ⟨k + 1, 0, rfl, h.b1.lt, fun i hi => by
    match i, hi with
    | 0, _ => exact ⟨syOf_ok hn, h.b1.cellsAt 0 _ rfl⟩⟩⟩
  have r2 : Row SyAt 8 [syS] (some ⟨k + 2, 0, none⟩) W := ⟨by simp, fun _ => ⟨k + 2, 0, rfl, h.b2.lt, fun i hi => by
    match i, hi with
    | 0, _ => exact ⟨syS_ok, h.b2.cellsAt 0 _ rfl⟩⟩⟩
  refine ⟨sz69, sz0, ⟨by simp [numD, numPs], fun _ => ⟨k + 3, 0, rfl, h.b3.lt, fun i hi => ?_⟩⟩, Row.nil, Row.nil, Row.nil, Row.nil, Nat.le_refl _⟩
  match i, hi with
  | 0, _ => exact ⟨⟨sz69, sz65⟩, _, 3, h.b3.cellsAt 0 _ rfl, r0, Nat.le_refl _⟩
  | 1, _ => exact ⟨⟨sz69, sz78⟩, _, 1, h.b3.cellsAt 5 _ rfl, r1, Nat.le_refl _⟩
  | 2, _ => exact ⟨⟨sz78, sz0⟩, _, 1, h.b3.cellsAt 10 _ rfl, r2, Nat.le_refl _⟩
theorem ret32 {R : Ending → World → Prop} {a : Act} {W : World} {k : Nat} {x0 x1 x2 x3 x4 x5 x6 : Value} (h4 : (a.tmps[0]?).getD undef = .pointer (some ⟨k, 0, none⟩)) (hd : a.defers = []) (hb : Blk W k #[x0, x1, x2, x3, x4, x5, x6] 28) (hR : R (.returned (.agg #[x0, x1, x2, x3, x4, x5, x6])) W) : bodyPost Try.prog Try.f32 R .ret a W := by
  have f0 : W.cell? ⟨k, 0, none⟩ = some x0 := hb.cell 0
  have f1 : W.cell? ⟨k, 1, none⟩ = some x1 := hb.cell 1
  have f2 : W.cell? ⟨k, 2, none⟩ = some x2 := hb.cell 2
  have f3 : W.cell? ⟨k, 3, none⟩ = some x3 := hb.cell 3
  have f4 : W.cell? ⟨k, 4, none⟩ = some x4 := hb.cell 4
  have f5 : W.cell? ⟨k, 5, none⟩ = some x5 := hb.cell 5
  have f6 : W.cell? ⟨k, 6, none⟩ = some x6 := hb.cell 6
  refine ⟨hd, .agg #[x0, x1, x2, x3, x4, x5, x6], ?_, hR⟩
  simp [results, Try.results32, h4, go_sem, f0, f1, f2, f3, f4, f5, f6, Try.isAgg28, Try.sizeOf28]
theorem Blk.new_at (W : World) (c : Array Value) (t : TypeId) (k : Nat) (h : W.heap.size = k) : Blk (W.alloc (.cells c t)) k c t := by subst h; exact Blk.new W c t
theorem size_n (n : Nat) : n + 1 + 1 + 1 + 1 = n + 4 := rfl
set_option maxHeartbeats 800000 in
set_option maxRecDepth 100000 in
theorem num_at (w : World) : Calls Try.prog 32 #[] w fun e w' => ∃ k, e = .returned (.agg #[.string ⟨#[69]⟩, .string ⟨#[]⟩, .slice (some ⟨k + 3, 0, none⟩) 3 3, .slice none 0 0, .slice none 0 0, .slice none 0 0, .slice none 0 0]) ∧ Hid (NumAt ⟨#[78]⟩ k w' ∧ w.heap.size ≤ k ∧ Below w.heap.size w w') := by
  go_enter Try.func32, Try.ntmps32
  go_wp2_with fail
  refine ret32 (k := w.heap.size) rfl rfl ?_ ⟨w.heap.size + 4, rfl, hide ⟨⟨?_, ?_, ?_, ?_⟩, Nat.le_add_right _ _, ?_⟩⟩
  · exact (((((((Blk.new w _ _).alloc _).alloc _).alloc _).alloc _).alloc _).alloc _).alloc _
  · exact (((Blk.new_at _ _ _ _ (by simp)).alloc _).alloc _).alloc _
  · exact ((Blk.new_at _ _ _ _ (by simp)).alloc _).alloc _
  · exact (Blk.new_at _ _ _ _ (by simp)).alloc _
  · exact Blk.new_at _ _ _ _ (by simp)
  · exact NB.alloc (NB.alloc (NB.alloc (NB.alloc (NB.alloc (NB.alloc (NB.alloc (NB.alloc (Below.refl _ _) _) _) _) _) _) _) _) _
end Go.Proofs.Ytalicfpcmcbdbaa
