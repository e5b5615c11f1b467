/- The walk of num. What Check says of the fixed definition. The fixed calls. The walk of Parts. -/
import Derived.Test.YtalicfpcmcbdbaaZOkD
import Derived.Test.YtalicfpcmcbdbaaZInL
import Derived.Test.YtalicfpcmcbdbaaZCons
import Derived.Test.YtalicfpcmcbdbaaZRItems
set_option linter.unusedVariables false
set_option linter.unusedSimpArgs false
set_option linter.unnecessarySimpa false
set_option linter.deprecated false
namespace Go.Proofs.Ytalicfpcmcbdbaa
open Go.RowKit

def syE : Sy := ⟨3, ⟨#[]⟩, zS, ⟨#[69]⟩, ⟨#[]⟩⟩
def syOf (n : ByteArray) : Sy := ⟨3, ⟨#[]⟩, zS, n, ⟨#[]⟩⟩
def syP : Sy := ⟨1, ⟨#[43]⟩, zS, ⟨#[]⟩, ⟨#[]⟩⟩
def syS : Sy := ⟨6, ⟨#[]⟩, ⟨1, 0, 0, 0⟩, ⟨#[]⟩, ⟨#[]⟩⟩
def numPs (n : ByteArray) : List Pd := [⟨false, ⟨#[69]⟩, ⟨#[65]⟩, false, [syE, syP, syE]⟩, ⟨false, ⟨#[69]⟩, ⟨#[78]⟩, false, [syOf n]⟩, ⟨true, ⟨#[78]⟩, ⟨#[]⟩, false, [syS]⟩]
/-- The fixed definition; n: what the second production names. -/
def numD (n : ByteArray) : Df := ⟨⟨#[69]⟩, ⟨#[]⟩, numPs n, [], [], [], []⟩
theorem Blk.cellsAt {W : World} {b : Nat} {c : Array Value} {t : TypeId} (h : Blk W b c t) (o : Nat) (cs : List Value) (hc : (c.toList.drop o).take cs.length = cs) : CellsAt cs b o W := by
  intro j u hj
  rw [h.cell (o + j)]
  have hjl : j < cs.length := (List.getElem?_eq_some_iff.1 hj).1
  rw [← hc, List.getElem?_take, if_pos hjl, List.getElem?_drop] at hj
  rw [← hj]; simp
structure NumAt (n : ByteArray) (k : Nat) (W : World) : Prop where
  b0 : Blk W k #[.int .i64 3, .string ⟨#[]⟩, .int .u64 0, .int .u64 0, .int .u64 0, .int .u64 0, .string ⟨#[69]⟩, .string ⟨#[]⟩, .int .i64 1, .string ⟨#[43]⟩, .int .u64 0, .int .u64 0, .int .u64 0, .int .u64 0, .string ⟨#[]⟩, .string ⟨#[]⟩, .int .i64 3, .string ⟨#[]⟩, .int .u64 0, .int .u64 0, .int .u64 0, .int .u64 0, .string ⟨#[69]⟩, .string ⟨#[]⟩] 61
  b1 : Blk W (k + 1) #[.int .i64 3, .string ⟨#[]⟩, .int .u64 0, .int .u64 0, .int .u64 0, .int .u64 0, .string n, .string ⟨#[]⟩] 61
  b2 : Blk W (k + 2) #[.int .i64 6, .string ⟨#[]⟩, .int .u64 1, .int .u64 0, .int .u64 0, .int .u64 0, .string ⟨#[]⟩, .string ⟨#[]⟩] 61
  b3 : Blk W (k + 3) #[.bool false, .string ⟨#[69]⟩, .string ⟨#[65]⟩, .bool false, .slice (some ⟨k, 0, none⟩) 3 3, .bool false, .string ⟨#[69]⟩, .string ⟨#[78]⟩, .bool false, .slice (some ⟨k + 1, 0, none⟩) 1 1, .bool true, .string ⟨#[78]⟩, .string ⟨#[]⟩, .bool false, .slice (some ⟨k + 2, 0, none⟩) 1 1] 38
theorem NumAt.below {n : ByteArray} {k : Nat} {W W' : World} (h : NumAt n k W) (hb : Below W.heap.size W W') : NumAt n k W' := ⟨h.b0.below hb, h.b1.below hb, h.b2.below hb, h.b3.below hb⟩
theorem short_lit (s : ByteArray) (h : s.size < 100 := by decide) : short s := by unfold short; omega
theorem sz0 : short (⟨#[]⟩ : ByteArray) := by unfold short; decide
theorem sz69 : short (⟨#[69]⟩ : ByteArray) := by unfold short; decide
theorem sz78 : short (⟨#[78]⟩ : ByteArray) := by unfold short; decide
theorem sz65 : short (⟨#[65]⟩ : ByteArray) := by unfold short; decide
theorem syE_ok : syE.ok := ⟨by unfold i64; decide, sz0, zS_ok, sz69, sz0⟩
theorem syP_ok : syP.ok := ⟨by unfold i64; decide, by unfold short; decide, zS_ok, sz0, sz0⟩
theorem syS_ok : syS.ok := ⟨by unfold i64; decide, sz0, ⟨by decide, by decide, by decide, by decide⟩, sz0, sz0⟩
theorem i64_3 : i64 3 := by unfold i64; decide
theorem syOf_ok {n : ByteArray} (h : short n) : (syOf n).ok := ⟨i64_3, sz0, zS_ok, h, sz0⟩
theorem NumAt.rd {n : ByteArray} {k : Nat} {W : World} (h : NumAt n k W) (hn : short n) : RD (numD n) ⟨some ⟨k + 3, 0, none⟩, 3, none, 0, none, 0, none, 0, none, 0⟩ W := by
  have r0 : Row SyAt 8 [syE, syP, syE] (some ⟨k, 0, none⟩) W := ⟨by simp, fun _ => ⟨k, 0, rfl, h.b0.lt, fun i hi => by
    match i, hi with
    | 0, _ => exact ⟨syE_ok, h.b0.cellsAt 0 _ rfl⟩
    | 1, _ => exact ⟨syP_ok, h.b0.cellsAt 8 _ rfl⟩
    | 2, _ => exact ⟨syE_ok, h.b0.cellsAt 16 _ rfl⟩⟩⟩
  have r1 : Row SyAt 8 [syOf n] (some ⟨k + 1, 0, none⟩) W := ⟨by simp, fun _ => ⟨k + 1, 0, rfl, h.b1.lt, fun i hi => by
    match i, hi with
    | 0, _ => exact ⟨syOf_ok hn, h.b1.cellsAt 0 _ rfl⟩⟩⟩
  have r2 : Row SyAt 8 [syS] (some ⟨k + 2, 0, none⟩) W := ⟨by simp, fun _ => ⟨k + 2, 0, rfl, h.b2.lt, fun i hi => by
    match i, hi with
    | 0, _ => exact ⟨syS_ok, h.b2.cellsAt 0 _ rfl⟩⟩⟩
  refine ⟨sz69, sz0, ⟨by simp [numD, numPs], fun _ => ⟨k + 3, 0, rfl, h.b3.lt, fun i hi => ?_⟩⟩, Row.nil, Row.nil, Row.nil, Row.nil, Nat.le_refl _⟩
  match i, hi with
  | 0, _ => exact ⟨⟨sz69, sz65⟩, _, 3, h.b3.cellsAt 0 _ rfl, r0, Nat.le_refl _⟩
  | 1, _ => exact ⟨⟨sz69, sz78⟩, _, 1, h.b3.cellsAt 5 _ rfl, r1, Nat.le_refl _⟩
  | 2, _ => exact ⟨⟨sz78, sz0⟩, _, 1, h.b3.cellsAt 10 _ rfl, r2, Nat.le_refl _⟩
theorem ret32 {R : Ending → World → Prop} {a : Act} {W : World} {k : Nat} {x0 x1 x2 x3 x4 x5 x6 : Value} (h4 : (a.tmps[0]?).getD undef = .pointer (some ⟨k, 0, none⟩)) (hd : a.defers = []) (hb : Blk W k #[x0, x1, x2, x3, x4, x5, x6] 28) (hR : R (.returned (.agg #[x0, x1, x2, x3, x4, x5, x6])) W) : bodyPost Try.prog Try.f32 R .ret a W := by
  have f0 : W.cell? ⟨k, 0, none⟩ = some x0 := hb.cell 0
  have f1 : W.cell? ⟨k, 1, none⟩ = some x1 := hb.cell 1
  have f2 : W.cell? ⟨k, 2, none⟩ = some x2 := hb.cell 2
  have f3 : W.cell? ⟨k, 3, none⟩ = some x3 := hb.cell 3
  have f4 : W.cell? ⟨k, 4, none⟩ = some x4 := hb.cell 4
  have f5 : W.cell? ⟨k, 5, none⟩ = some x5 := hb.cell 5
  have f6 : W.cell? ⟨k, 6, none⟩ = some x6 := hb.cell 6
  refine ⟨hd, .agg #[x0, x1, x2, x3, x4, x5, x6], ?_, hR⟩
  simp [results, Try.results32, h4, go_sem, f0, f1, f2, f3, f4, f5, f6, Try.isAgg28, Try.sizeOf28]
theorem Blk.new_at (W : World) (c : Array Value) (t : TypeId) (k : Nat) (h : W.heap.size = k) : Blk (W.alloc (.cells c t)) k c t := by subst h; exact Blk.new W c t
theorem size_n (n : Nat) : n + 1 + 1 + 1 + 1 = n + 4 := rfl
set_option maxHeartbeats 800000 in
set_option maxRecDepth 100000 in
theorem num_at (w : World) : Calls Try.prog 32 #[] w fun e w' => ∃ k, e = .returned (.agg #[.string ⟨#[69]⟩, .string ⟨#[]⟩, .slice (some ⟨k + 3, 0, none⟩) 3 3, .slice none 0 0, .slice none 0 0, .slice none 0 0, .slice none 0 0]) ∧ Hid (NumAt ⟨#[78]⟩ k w' ∧ w.heap.size ≤ k ∧ Below w.heap.size w w') := by
  go_enter Try.func32, Try.ntmps32
  go_wp2_with fail
  refine ret32 (k := w.heap.size) rfl rfl ?_ ⟨w.heap.size + 4, rfl, hide ⟨⟨?_, ?_, ?_, ?_⟩, Nat.le_add_right _ _, ?_⟩⟩
  · exact (((((((Blk.new w _ _).alloc _).alloc _).alloc _).alloc _).alloc _).alloc _).alloc _
  · exact (((Blk.new_at _ _ _ _ (by simp)).alloc _).alloc _).alloc _
  · exact ((Blk.new_at _ _ _ _ (by simp)).alloc _).alloc _
  · exact (Blk.new_at _ _ _ _ (by simp)).alloc _
  · exact Blk.new_at _ _ _ _ (by simp)
  · exact NB.alloc (NB.alloc (NB.alloc (NB.alloc (NB.alloc (NB.alloc (NB.alloc (NB.alloc (Below.refl _ _) _) _) _) _) _) _) _) _
end Go.Proofs.Ytalicfpcmcbdbaa

set_option linter.unusedVariables false
set_option linter.unusedSimpArgs false
set_option linter.unnecessarySimpa false
set_option linter.deprecated false
namespace Go.Proofs.Ytalicfpcmcbdbaa
open Go.RowKit

def bE : ByteArray := ⟨#[69]⟩
def bN : ByteArray := ⟨#[78]⟩
theorem nn0 : formL (numD bN) = okL := by decide +kernel
theorem nn1 : mixedL (numD bN) = okL := by decide +kernel
theorem nn2 : endsL (numD bN) = okL := by decide +kernel
theorem nn3 : undefL (numD bN) = okL := by decide +kernel
theorem nn4 : firstG 44 (kindB (numD bN)) Pd.sort (numD bN).prods = okL := by decide +kernel
theorem nn5 : consLk (numD bN) = okL := by decide +kernel
theorem nn6 : firstG 46 bracketB Pd.sort (numD bN).prods = okL := by decide +kernel
theorem nn7 : firstG 2 (longB (numD bN)) Pd.sort (numD bN).prods = okL := by decide +kernel
theorem nn8 : firstG 47 nullB Pd.sort (numD bN).prods = okL := by decide +kernel
theorem nn9 : prioL (numD bN) = okL := by decide +kernel
theorem nn10 : followL (numD bN) = okL := by decide +kernel
theorem nn11 : boxL (numD bN) = okL := by decide +kernel
theorem ne0 : formL (numD bE) = okL := by decide +kernel
theorem ne1 : mixedL (numD bE) = okL := by decide +kernel
theorem ne2 : endsL (numD bE) = okL := by decide +kernel
theorem ne3 : undefL (numD bE) = okL := by decide +kernel
theorem ne4 : firstG 44 (kindB (numD bE)) Pd.sort (numD bE).prods = okL := by decide +kernel
theorem ne5 : consLk (numD bE) = okL := by decide +kernel
theorem ne6 : firstG 46 bracketB Pd.sort (numD bE).prods = okL := by decide +kernel
theorem ne7 : firstG 2 (longB (numD bE)) Pd.sort (numD bE).prods = okL := by decide +kernel
theorem ne8 : firstG 47 nullB Pd.sort (numD bE).prods = okL := by decide +kernel
theorem ne9 : prioL (numD bE) = okL := by decide +kernel
theorem ne10 : followL (numD bE) = okL := by decide +kernel
theorem ne11 : boxL (numD bE) = okL := by decide +kernel
theorem num_sorts : sortsL (numD bN).prods = [bE, bN] := by decide +kernel
theorem num_sortsE : sortsL (numD bE).prods = [bE, bN] := by decide +kernel
theorem num_cons : consIdx (numD bN).prods bN = 1 := by decide +kernel
theorem num_bare : ∀ p ∈ (numD bN).prods, ∀ n ∈ bareL p, p.sort = bE ∧ n = bN := by decide +kernel
theorem num_reach {s t : ByteArray} (h : Reach (numD bN).prods bareL s t) : s = bE ∧ t = bN := by
  induction h with
  | one hp hs hn => have := num_bare _ hp _ hn; exact ⟨hs ▸ this.1, this.2⟩
  | more h hp hs hn ih => exact ⟨ih.1, (num_bare _ hp _ hn).2⟩
theorem num_cycle : cycleL (numD bN) = okL := by
  unfold cycleL
  rw [num_sorts]
  have h0 : ¬ Reach (numD bN).prods bareL bE bE := fun h => absurd (num_reach h).2 (by decide)
  have h1 : ¬ Reach (numD bN).prods bareL bN bN := fun h => absurd (num_reach h).1 (by decide)
  simp [firstL, h0, h1]
theorem numE_cycle : cycleL (numD bE) = (48, bE) := by
  unfold cycleL
  rw [num_sortsE]
  have h0 : Reach (numD bE).prods bareL bE bE := .one (p := ⟨false, ⟨#[69]⟩, ⟨#[78]⟩, false, [syOf bE]⟩) (by decide +kernel) rfl (by rw [show bareL (⟨false, ⟨#[69]⟩, ⟨#[78]⟩, false, [syOf bE]⟩ : Pd) = [bE] from by decide +kernel]; simp)
  simp [firstL, h0]
theorem num_check : checkL (numD bN) = okL := by
  unfold checkL looksL
  rw [nn0, nn1, nn2, nn3, nn4, nn5, nn6, nn7, nn8, nn9, nn10, nn11, num_cycle, show rejectL (numD bN) = okL from rfl]
  decide +kernel
theorem numE_check : checkL (numD bE) = (48, bE) := by
  unfold checkL looksL
  rw [ne0, ne1, ne2, ne3, ne4, ne5, ne6, ne7, ne8, ne9, ne10, ne11, numE_cycle, show rejectL (numD bE) = okL from rfl]
  decide +kernel
theorem num_small1 (n : ByteArray) (h : (usedL (numD n)).length ≤ 99000) : Small (numD n) := by
  refine ⟨by simp [numD, numPs], ?_, h, (fun ch h => nomatch h), by simp [numD]⟩
  intro p hp
  simp only [numD, numPs, List.mem_cons, List.not_mem_nil, or_false] at hp
  rcases hp with rfl | rfl | rfl <;> simp
theorem num_small : Small (numD bN) := num_small1 _ (by decide +kernel)
theorem numE_small : Small (numD bE) := num_small1 _ (by decide +kernel)
end Go.Proofs.Ytalicfpcmcbdbaa

set_option linter.unusedVariables false
set_option linter.unusedSimpArgs false
set_option linter.unnecessarySimpa false
set_option linter.deprecated false
namespace Go.Proofs.Ytalicfpcmcbdbaa
open Go.RowKit

theorem ckN (k : Nat) (W : World) (h : NumAt bN k W) : Calls Try.prog 14 #[.agg #[.string ⟨#[69]⟩, .string ⟨#[]⟩, .slice (some ⟨k + 3, 0, none⟩) 3 3, .slice none 0 0, .slice none 0 0, .slice none 0 0, .slice none 0 0]] W fun e w' => e = .returned (.tuple #[.int .i64 0, .string ⟨#[]⟩]) ∧ Below W.heap.size W w' := by
  have := Check_any (numD bN) _ _ _ _ _ _ _ _ _ _ W (h.rd sz78) num_small
  rw [num_check] at this
  exact this
theorem ckE (k : Nat) (W : World) (h : NumAt bE k W) : Calls Try.prog 14 #[.agg #[.string ⟨#[69]⟩, .string ⟨#[]⟩, .slice (some ⟨k + 3, 0, none⟩) 3 3, .slice none 0 0, .slice none 0 0, .slice none 0 0, .slice none 0 0]] W fun e w' => e = .returned (.tuple #[.int .i64 48, .string ⟨#[69]⟩]) ∧ Below W.heap.size W w' := by
  have := Check_any (numD bE) _ _ _ _ _ _ _ _ _ _ W (h.rd sz69) numE_small
  rw [numE_check] at this
  exact this
theorem soN (k : Nat) (W : World) (h : NumAt bN k W) : Calls Try.prog 22 #[.agg #[.string ⟨#[69]⟩, .string ⟨#[]⟩, .slice (some ⟨k + 3, 0, none⟩) 3 3, .slice none 0 0, .slice none 0 0, .slice none 0 0, .slice none 0 0]] W fun e w' => ∃ a c, e = .returned (.slice a 2 c) ∧ Hid (∃ b o, a = some ⟨b, o, none⟩ ∧ b < w'.heap.size ∧ w'.cell? ⟨b, o + 1, none⟩ = some (.string ⟨#[78]⟩)) ∧ Below W.heap.size W w' := by
  refine (sorts_any (numD bN) _ _ _ _ _ _ _ _ _ _ W (h.rd sz78) num_small.pl5).mono ?_
  rintro e w' ⟨v, rfl, ho, hb⟩
  rw [num_sorts] at ho
  obtain ⟨a, c, rfl, hr⟩ := ho.row (by decide)
  obtain ⟨b, o, rfl, hlt, hat⟩ := hr.get (k := 1) (by decide)
  exact ⟨_, _, rfl, hide ⟨b, o, rfl, hlt, (hat 1 (by decide)).2⟩, hb⟩
theorem coN (k : Nat) (W : World) (h : NumAt bN k W) : Calls Try.prog 21 #[.agg #[.string ⟨#[69]⟩, .string ⟨#[]⟩, .slice (some ⟨k + 3, 0, none⟩) 3 3, .slice none 0 0, .slice none 0 0, .slice none 0 0, .slice none 0 0], .string ⟨#[78]⟩] W fun e w' => e = .returned (.int .i64 1) ∧ Below W.heap.size W w' := by
  have := Cons_at (numD bN) (some ⟨k + 3, 0, none⟩) 3 none 0 none 0 none 0 none 0 bN W (h.rd sz78).p
  rw [num_cons] at this
  exact this
set_option maxHeartbeats 800000 in
set_option maxRecDepth 100000 in
theorem alive_any (w : World) : Calls Try.prog 12 #[] w fun e w' => e = .returned (.bool true) ∧ Below w.heap.size w w' := by
  go_enter Try.func12, Try.ntmps12
  go_wp2_with fail
  refine (num_at w).mono ?_
  rintro e w1 ⟨k1, rfl, h1⟩
  have H1 := hide h1.out
  clear h1
  have HC1 := hide (ckN k1 w1 H1.out.1)
  go_wp2_with fail
  refine HC1.out.mono ?_
  rintro e w2 ⟨rfl, hb2⟩
  have HB2 := hide (below_next H1.out.2.2 hb2)
  clear hb2 HC1
  go_wp2_with fail
  refine (num_at w2).mono ?_
  rintro e w3 ⟨k3, rfl, h3⟩
  have H3 := hide h3.out
  have HB3 := hide (below_next HB2.out h3.out.2.2)
  clear h3
  go_upto_region 3 with fail
  obtain ⟨w4, h4⟩ : ∃ w4, w3.alloc (.cells #[.string ⟨#[69]⟩, .string ⟨#[]⟩, .slice (some ⟨k3 + 3, 0, none⟩) 3 3, .slice none 0 0, .slice none 0 0, .slice none 0 0, .slice none 0 0] 28) = w4 := ⟨_, rfl⟩
  obtain ⟨kx, hkx⟩ : ∃ kx, w3.heap.size = kx := ⟨_, rfl⟩
  have HB4 := hide (show Below w.heap.size w w4 by rw [← h4]; exact NB.alloc HB3.out _)
  have HX4 := hide (show Blk w4 kx #[.string ⟨#[69]⟩, .string ⟨#[]⟩, .slice (some ⟨k3 + 3, 0, none⟩) 3 3, .slice none 0 0, .slice none 0 0, .slice none 0 0, .slice none 0 0] 28 by rw [← h4, ← hkx]; exact Blk.new w3 _ _)
  have HN4 := hide (show NumAt bN k3 w4 by rw [← h4]; exact H3.out.1.below (NB.alloc (Below.refl _ _) _))
  have HK3 := hide (show w.heap.size ≤ k3 from Nat.le_trans HB2.out.size H3.out.2.1)
  rw [h4, hkx]
  clear h4 hkx
  have x2 := HX4.out.cell 2
  have xl := HX4.out.lt
  have y9 := HN4.out.b3.cell 9
  have yl := HN4.out.b3.lt
  have z6 := HN4.out.b1.cell 6
  have zl := HN4.out.b1.lt
  have zf := HN4.out.b1.free 6
  go_upto_region 4 with fail
  have HE5 := hide (show NumAt bE k3 (w4.setCell ⟨k3 + 1, 6, none⟩ (.string ⟨#[69]⟩)) from ⟨HN4.out.b0.other (by omega), HN4.out.b1.set 6 _, HN4.out.b2.other (by omega), HN4.out.b3.other (by omega)⟩)
  have HX5 := hide (HX4.out.other (x := .string ⟨#[69]⟩) (i := 6) (show kx ≠ k3 + 1 from HX4.out.ne HN4.out.b1 (by decide)))
  have HB5 := hide (show Below w.heap.size w (w4.setCell ⟨k3 + 1, 6, none⟩ (.string ⟨#[69]⟩)) from HB4.out.setCell (by have := HK3.out; simp only; omega) _)
  clear x2 xl y9 yl z6 zl zf
  generalize w4.setCell ⟨k3 + 1, 6, none⟩ (.string ⟨#[69]⟩) = w5 at HE5 HX5 HB5 ⊢
  have x0 := HX5.out.cell 0
  have x1 := HX5.out.cell 1
  have x2 := HX5.out.cell 2
  have x3 := HX5.out.cell 3
  have x4 := HX5.out.cell 4
  have x5 := HX5.out.cell 5
  have x6 := HX5.out.cell 6
  have xl := HX5.out.lt
  have HC5 := hide (ckE k3 w5 HE5.out)
  go_wp2_with fail
  refine HC5.out.mono ?_
  rintro e w6 ⟨rfl, hb6⟩
  have HB6 := hide (below_next HB5.out hb6)
  clear hb6 x0 x1 x2 x3 x4 x5 x6 xl HC5
  go_wp2_with fail
  refine (num_at w6).mono ?_
  rintro e w7 ⟨k7, rfl, h7⟩
  have H7 := hide h7.out.1
  have HB7 := hide (below_next HB6.out h7.out.2.2)
  clear h7
  have HC7 := hide (soN k7 w7 H7.out)
  go_wp2_with fail
  refine HC7.out.mono ?_
  rintro e w8 ⟨a8, c8, rfl, h8, hb8⟩
  obtain ⟨b8, o8, rfl, hl8, hc8⟩ := h8.out
  have HB8 := hide (below_next HB7.out hb8)
  clear h8 hb8
  go_wp2_with fail
  refine (num_at w8).mono ?_
  rintro e w9 ⟨k9, rfl, h9⟩
  have H9 := hide h9.out.1
  have HB9 := hide (below_next HB8.out h9.out.2.2)
  clear h9
  have HC9 := hide (coN k9 w9 H9.out)
  go_wp2_with fail
  refine HC9.out.mono ?_
  rintro e w10 ⟨rfl, hb10⟩
  have HB10 := hide (below_next HB9.out hb10)
  clear hb10
  go_wp2_with fail
  go_ret
  exact ⟨rfl, HB10.out⟩
end Go.Proofs.Ytalicfpcmcbdbaa

set_option linter.unusedVariables false
set_option linter.unusedSimpArgs false
set_option linter.unnecessarySimpa false
set_option linter.deprecated false
namespace Go.Proofs.Ytalicfpcmcbdbaa
open Go.RowKit

theorem i64_wrap (z : Int) : i64 (wrap64 z) := by unfold i64 wrap64; omega
set_option maxHeartbeats 800000 in
set_option maxRecDepth 100000 in
theorem itemParts_all : ∀ (N : Nat) (l : List It), SizeOf.sizeOf l < N → ∀ (a : Option Addr) (c : Nat) (w : World), Row ItAt 4 l a w →
    Calls Try.prog 67 #[.slice a l.length c, .int .i64 400] w fun e w' => (∃ v, i64 v ∧ e = .returned (.int .i64 v)) ∧ Below w.heap.size w w' := by
  intro N
  induction N with
  | zero => intro l h; exact absurd h (Nat.not_lt_zero _)
  | succ N ih =>
    intro l hN a c w hr
    have HR := hide hr
    have HN := hide hN
    have IH := hide ih
    have hln := hr.1
    clear hr hN ih
    go_enter Try.func67, Try.ntmps67
    go_wp2_with fail
    go_loopg [5, 6] l.length (fun u v5 v6 wr => ∃ (k : Nat) (n : Int), Hid (u = l.length - k) ∧ v6 = .int .i64 (k : Int) ∧ v5 = .int .i64 n ∧ Hid (k ≤ l.length ∧ i64 n ∧ Below w.heap.size w wr))
    case atStart => exact ⟨0, l.length, hide rfl, rfl, rfl, hide ⟨Nat.zero_le _, by unfold i64; omega, Below.refl _ _⟩⟩
    case round =>
      obtain ⟨k, n, hu, rfl, rfl, hh⟩ := hrel
      have hkl := hh.out.1
      by_cases hlt : k < l.length
      · have hlti : (k : Int) < (l.length : Int) := by omega
        by_cases hn : n ≤ 400
        · have hnd : decide (n ≤ 400) = true := decide_eq_true hn
          obtain ⟨b, o, rfl, hb, hat⟩ := (HR.out.below ItAt.stable hh.out.2.2).get hlt
          have hx := hat k hlt
          have hsz : SizeOf.sizeOf l[k].kids < N := by
            have h1 := sizeOf_kids l[k]
            have h2 := List.sizeOf_lt_of_mem (List.getElem_mem hlt)
            have := HN.out
            omega
          generalize l[k] = x at hx hsz
          clear hat
          obtain ⟨⟨hk1, ht1, hn1⟩, ak, ck, ⟨e0, e1, e2, e3⟩, hrow⟩ := hx.cells
          have HC := hide (IH.out x.kids hsz ak ck wr hrow)
          clear hx hrow hsz
          go_wp2_with fail
          refine HC.out.mono ?_
          rintro e w5 ⟨⟨v, hv, rfl⟩, hb5⟩
          have HB5 := hide (below_next hh.out.2.2 hb5)
          go_wp2_with fail
          go_roundg (l.length - (k + 1))
          case measure => rw [hu.out]; omega
          case rel => exact ⟨k + 1, wrap64 (n + v), hide rfl, by go_num, rfl, hide ⟨hlt, i64_wrap _, HB5.out⟩⟩
        · have hnd : decide (n ≤ 400) = false := decide_eq_false hn
          go_wp2_with fail
          go_ret
          exact ⟨⟨n, hh.out.2.1, rfl⟩, hh.out.2.2⟩
      · have hlti : ¬ (k : Int) < (l.length : Int) := by omega
        go_wp2_with fail
        go_ret
        exact ⟨⟨n, hh.out.2.1, rfl⟩, hh.out.2.2⟩
def base0 (d : Df) : Nat := d.prods.length + d.chains.length + d.follows.length + d.rejects.length + d.boxes.length
def t1 (d : Df) (k : Nat) : Nat := base0 d + ((d.prods.take k).map (fun p => p.syms.length)).sum
def consN (ch : List Gp) (i : Nat) : Nat := ((ch.take i).map (fun g => g.cons.length)).sum
def chW (ch : List Gp) : Nat := ch.length + consN ch ch.length
def t2 (d : Df) (k : Nat) : Nat := t1 d d.prods.length + ((d.chains.take k).map chW).sum
/-- How many parts a definition has, but for what its templates hold. -/
def totD (d : Df) : Nat := t2 d d.chains.length
theorem t1_snoc (d : Df) (k : Nat) (h : k < d.prods.length) : t1 d (k + 1) = t1 d k + d.prods[k].syms.length := by
  unfold t1; rw [take_snoc _ _ h, List.map_append, List.sum_append]; simp; omega
theorem t2_snoc (d : Df) (k : Nat) (h : k < d.chains.length) : t2 d (k + 1) = t2 d k + chW d.chains[k] := by
  unfold t2; rw [take_snoc _ _ h, List.map_append, List.sum_append]; simp; omega
theorem consN_snoc (ch : List Gp) (k : Nat) (h : k < ch.length) : consN ch (k + 1) = consN ch k + ch[k].cons.length := by
  unfold consN; rw [take_snoc _ _ h, List.map_append, List.sum_append]; simp
set_option maxHeartbeats 800000 in
set_option maxRecDepth 100000 in
theorem Parts_any (d : Df) (a2 : Option Addr) (c2 : Nat) (a3 : Option Addr) (c3 : Nat) (a4 : Option Addr) (c4 : Nat) (a5 : Option Addr) (c5 : Nat) (a6 : Option Addr) (c6 : Nat) (w : World) (hd : RD d ⟨a2, c2, a3, c3, a4, c4, a5, c5, a6, c6⟩ w) :
    Calls Try.prog 31 #[.agg #[.string d.start, .string d.layout, .slice a2 d.prods.length c2, .slice a3 d.chains.length c3, .slice a4 d.follows.length c4, .slice a5 d.rejects.length c5, .slice a6 d.boxes.length c6], .int .i64 400] w fun e w' => (∃ v, i64 v ∧ e = .returned (.int .i64 v) ∧ (v ≤ 400 → totD d ≤ 400)) ∧ Below w.heap.size w w' := by
  have hl2 := hd.p.1
  have hl3 := hd.c.1
  have hl4 := hd.f.1
  have hl5 := hd.j.1
  have hl6 := hd.x.1
  have HD := hide hd
  have HB0 := hide (NB.alloc (Below.refl w.heap.size w) (.cells #[.string d.start, .string d.layout, .slice a2 d.prods.length c2, .slice a3 d.chains.length c3, .slice a4 d.follows.length c4, .slice a5 d.rejects.length c5, .slice a6 d.boxes.length c6] 28))
  have HX0 := hide (Blk.new w #[.string d.start, .string d.layout, .slice a2 d.prods.length c2, .slice a3 d.chains.length c3, .slice a4 d.follows.length c4, .slice a5 d.rejects.length c5, .slice a6 d.boxes.length c6] 28)
  clear hd
  go_enter Try.func31, Try.ntmps31
  go_upto_region 1 with fail
  obtain ⟨w1, h1⟩ : ∃ w1, w.alloc (.cells #[.string d.start, .string d.layout, .slice a2 d.prods.length c2, .slice a3 d.chains.length c3, .slice a4 d.follows.length c4, .slice a5 d.rejects.length c5, .slice a6 d.boxes.length c6] 28) = w1 := ⟨_, rfl⟩
  obtain ⟨kx, hkx⟩ : ∃ kx, w.heap.size = kx := ⟨_, rfl⟩
  rw [h1] at HB0 HX0 ⊢
  rw [hkx] at HX0 ⊢
  clear h1 hkx
  have HD1 := hide (HD.out.below HB0.out)
  have x2 := HX0.out.cell 2
  have x3 := HX0.out.cell 3
  have x4 := HX0.out.cell 4
  have x5 := HX0.out.cell 5
  have x6 := HX0.out.cell 6
  have xl := HX0.out.lt
  go_upto_block 0 with fail
  go_cut [5, 6] from 29 to 49 (fun v5 v6 wc => ∃ n : Nat, v5 = .int .i64 (n : Int) ∧ Hid (n ≤ 703687441756560 ∧ (n ≤ 400 → t1 d d.prods.length ≤ n) ∧ Below w1.heap.size w1 wc))
  case first =>
    go_wp2_with fail
    clear x2 x3 x4 x5 x6 xl
    go_loopg [5, 6] d.prods.length (fun u v5 v6 wr => ∃ k n : Nat, Hid (u = d.prods.length - k) ∧ v6 = .int .i64 (k : Int) ∧ v5 = .int .i64 (n : Int) ∧ Hid (k ≤ d.prods.length ∧ n ≤ 703687441756560 ∧ (n ≤ 400 → t1 d k ≤ n) ∧ Below w1.heap.size w1 wr))
    case atStart => exact ⟨0, base0 d, hide rfl, rfl, by unfold base0; go_num, hide ⟨Nat.zero_le _, by unfold base0; omega, fun _ => by unfold t1; simp, Below.refl _ _⟩⟩
    case round =>
      obtain ⟨k, n, hu, rfl, rfl, hh⟩ := hrel
      have hkl := hh.out.1
      have hnb := hh.out.2.1
      have x2 := (HX0.out.below hh.out.2.2.2).cell 2
      have xl := (HX0.out.below hh.out.2.2.2).lt
      by_cases hlt : k < d.prods.length
      · have hlti : (k : Int) < (d.prods.length : Int) := by omega
        by_cases hn : n ≤ 400
        · have hni : (n : Int) ≤ 400 := by omega
          have hnd : decide ((n : Int) ≤ 400) = true := decide_eq_true hni
          obtain ⟨b, o, rfl, hb, hat⟩ := (HD1.out.below hh.out.2.2.2).p.get hlt
          have hx := hat k hlt
          have HSN := hide (t1_snoc d k hlt)
          generalize d.prods[k] = x at hx HSN
          clear hat
          obtain ⟨ap, cp, ⟨e0, e1, e2, e3, e4⟩, hrow⟩ := hx.cells
          have hsl := hrow.1
          clear hx hrow
          go_wp2_with fail
          go_roundg (d.prods.length - (k + 1))
          case measure => rw [hu.out]; omega
          case rel => exact ⟨k + 1, n + x.syms.length, hide rfl, by go_num, by go_num, hide ⟨hlt, by omega, fun _ => by rw [HSN.out]; have := hh.out.2.2.1 hn; omega, hh.out.2.2.2⟩⟩
        · have hni : ¬ (n : Int) ≤ 400 := by omega
          have hnd : decide ((n : Int) ≤ 400) = false := decide_eq_false hni
          go_wp2_with fail
          go_meet
          exact ⟨n, rfl, hide ⟨hnb, fun h => absurd h hn, hh.out.2.2.2⟩⟩
      · have hlti : ¬ (k : Int) < (d.prods.length : Int) := by omega
        go_wp2_with fail
        go_meet
        exact ⟨n, rfl, hide ⟨hnb, fun h => by have := hh.out.2.2.1 h; rw [show d.prods.length = k by omega]; exact this, hh.out.2.2.2⟩⟩
  case rest =>
    obtain ⟨n0, rfl, hc⟩ := hcut
    clear x2 x3 x4 x5 x6 xl
    have HC0 := hide hc.out
    have HX1 := hide (HX0.out.below hc.out.2.2)
    have HD2 := hide (HD1.out.below hc.out.2.2)
    have HB2 := hide (below_next HB0.out hc.out.2.2)
    have hn0 := hc.out.1
    clear hc
    have x3 := HX1.out.cell 3
    have xl := HX1.out.lt
    go_upto_block 2 with fail
    go_cut [5, 7, 8] from 50 to 96 (fun v5 v7 v8 we => ∃ n : Nat, v5 = .int .i64 (n : Int) ∧ Hid (n ≤ 703687441756560 ∧ (n ≤ 400 → totD d ≤ n) ∧ Below wc.heap.size wc we))
    case first =>
      go_wp2_with fail
      clear x3 xl
      go_loopg [5, 7, 8] d.chains.length (fun u v5 v7 v8 wr => ∃ k n : Nat, Hid (u = d.chains.length - k) ∧ v7 = .int .i64 (k : Int) ∧ v5 = .int .i64 (n : Int) ∧ Hid (k ≤ d.chains.length ∧ n ≤ 703687441756560 ∧ (n ≤ 400 → t2 d k ≤ n) ∧ Below wc.heap.size wc wr))
      case atStart => exact ⟨0, n0, hide rfl, rfl, rfl, hide ⟨Nat.zero_le _, hn0, fun h => by unfold t2; simpa using HC0.out.2.1 h, Below.refl _ _⟩⟩
      case round =>
        obtain ⟨k, n, hu, rfl, rfl, hh⟩ := hrel
        have hkl := hh.out.1
        have hnb := hh.out.2.1
        have x3 := (HX1.out.below hh.out.2.2.2).cell 3
        have xl := (HX1.out.below hh.out.2.2.2).lt
        by_cases hlt : k < d.chains.length
        · have hlti : (k : Int) < (d.chains.length : Int) := by omega
          by_cases hn : n ≤ 400
          · have hni : (n : Int) ≤ 400 := by omega
            have hnd : decide ((n : Int) ≤ 400) = true := decide_eq_true hni
            obtain ⟨b, o, rfl, hb, hat⟩ := (HD2.out.below hh.out.2.2.2).c.get hlt
            have hx := hat k hlt
            have HSN := hide (t2_snoc d k hlt)
            generalize d.chains[k] = ch at hx HSN
            clear hat
            rw [Nat.mul_one] at hx
            obtain ⟨ac, cc, e0, hrow⟩ := hx
            have hsl := hrow.1
            have HROW := hide hrow
            have HBW := hide hh.out.2.2.2
            have HT := hide (hh.out.2.2.1 hn)
            clear hrow hh
            go_wp2_with fail
            clear x3 xl
            go_loopg [5, 8] ch.length (fun u v5 v8 wq => ∃ i m : Nat, Hid (u = ch.length - i) ∧ v8 = .int .i64 (i : Int) ∧ v5 = .int .i64 (m : Int) ∧ Hid (i ≤ ch.length ∧ m ≤ 703687441756560 ∧ (m ≤ 400 → t2 d k + ch.length + consN ch i ≤ m) ∧ Below wr.heap.size wr wq))
            case atStart => exact ⟨0, n + ch.length, hide rfl, rfl, by go_num, hide ⟨Nat.zero_le _, by omega, fun _ => by have := HT.out; unfold consN; simp; omega, Below.refl _ _⟩⟩
            case round =>
              obtain ⟨i, m, hv, rfl, rfl, hq⟩ := hrel
              have hil := hq.out.1
              have hmb := hq.out.2.1
              have x3 := (HX1.out.below (below_next HBW.out hq.out.2.2.2)).cell 3
              have xl := (HX1.out.below (below_next HBW.out hq.out.2.2.2)).lt
              have f0 := (hq.out.2.2.2.cell (p := ⟨b, o + k, none⟩) hb).trans e0
              have hb2 := Nat.lt_of_lt_of_le hb hq.out.2.2.2.size
              by_cases hlti : i < ch.length
              · have hltii : (i : Int) < (ch.length : Int) := by omega
                by_cases hm : m ≤ 400
                · have hmi : (m : Int) ≤ 400 := by omega
                  have hmd : decide ((m : Int) ≤ 400) = true := decide_eq_true hmi
                  obtain ⟨b2, o2, rfl, hb3, hat⟩ := (HROW.out.below GpAt.stable hq.out.2.2.2).get hlti
                  have hx := hat i hlti
                  have HSI := hide (consN_snoc ch i hlti)
                  generalize ch[i] = g at hx HSI
                  clear hat
                  obtain ⟨ag, cg, ⟨g0, g1⟩, hrow⟩ := hx.cells
                  have hgl := hrow.1
                  clear hx hrow
                  go_wp2_with fail
                  go_roundg (ch.length - (i + 1))
                  case measure => rw [hv.out]; omega
                  case rel => exact ⟨i + 1, m + g.cons.length, hide rfl, by go_num, by go_num, hide ⟨hlti, by omega, fun _ => by rw [HSI.out]; have := hq.out.2.2.1 hm; omega, hq.out.2.2.2⟩⟩
                · have hmi : ¬ (m : Int) ≤ 400 := by omega
                  have hmd : decide ((m : Int) ≤ 400) = false := decide_eq_false hmi
                  have HQB := hide hq.out.2.2.2
                  clear hq
                  go_wp2_with fail
                  go_roundg (d.chains.length - (k + 1))
                  case measure => rw [hu.out]; omega
                  case rel => exact ⟨k + 1, m, hide rfl, by go_num, rfl, hide ⟨hlt, hmb, fun h => absurd h hm, below_next HBW.out HQB.out⟩⟩
              · have hltii : ¬ (i : Int) < (ch.length : Int) := by omega
                have HQ := hide hq.out
                clear hq
                go_wp2_with fail
                go_roundg (d.chains.length - (k + 1))
                case measure => rw [hu.out]; omega
                case rel => exact ⟨k + 1, m, hide rfl, by go_num, rfl, hide ⟨hlt, hmb, fun h => by rw [HSN.out]; unfold chW; have := HQ.out.2.2.1 h; rw [show i = ch.length by omega] at this; omega, below_next HBW.out HQ.out.2.2.2⟩⟩
          · have hni : ¬ (n : Int) ≤ 400 := by omega
            have hnd : decide ((n : Int) ≤ 400) = false := decide_eq_false hni
            go_wp2_with fail
            go_meet
            exact ⟨n, rfl, hide ⟨hnb, fun h => absurd h hn, hh.out.2.2.2⟩⟩
        · have hlti : ¬ (k : Int) < (d.chains.length : Int) := by omega
          go_wp2_with fail
          go_meet
          exact ⟨n, rfl, hide ⟨hnb, fun h => by have := hh.out.2.2.1 h; unfold totD; rw [show d.chains.length = k by omega]; exact this, hh.out.2.2.2⟩⟩
    case rest =>
      obtain ⟨n1, rfl, hc⟩ := hcut
      clear x3 xl
      have HTT := hide hc.out.2.1
      have HX2 := hide (HX1.out.below hc.out.2.2)
      have HD3 := hide (HD2.out.below hc.out.2.2)
      have HB3 := hide (below_next HB2.out hc.out.2.2)
      have hn1 := hc.out.1
      clear hc
      have x6 := HX2.out.cell 6
      have xl := HX2.out.lt
      go_wp2_with fail
      clear x6 xl
      obtain ⟨wb, rfl⟩ : ∃ wb : World, wb = wc := ⟨_, rfl⟩
      go_loopg [5, 9] d.boxes.length (fun u v5 v9 wr => ∃ (k : Nat) (n : Int), Hid (u = d.boxes.length - k) ∧ v9 = .int .i64 (k : Int) ∧ v5 = .int .i64 n ∧ Hid (k ≤ d.boxes.length ∧ i64 n ∧ (n ≤ 400 → totD d ≤ 400) ∧ Below wb.heap.size wb wr))
      case atStart => exact ⟨0, n1, hide rfl, rfl, rfl, hide ⟨Nat.zero_le _, by unfold i64; omega, fun h => by have := HTT.out (by omega); omega, Below.refl _ _⟩⟩
      case round =>
        obtain ⟨k, n, hu, rfl, rfl, hh⟩ := hrel
        have hkl := hh.out.1
        have x6 := (HX2.out.below hh.out.2.2.2).cell 6
        have xl := (HX2.out.below hh.out.2.2.2).lt
        by_cases hlt : k < d.boxes.length
        · have hlti : (k : Int) < (d.boxes.length : Int) := by omega
          by_cases hn : n ≤ 400
          · have hnd : decide (n ≤ 400) = true := decide_eq_true hn
            obtain ⟨b, o, rfl, hb, hat⟩ := (HD3.out.below hh.out.2.2.2).x.get hlt
            have hx := hat k hlt
            generalize d.boxes[k] = x at hx
            clear hat
            obtain ⟨hsh, ai, ci, ⟨e0, e1⟩, hrow⟩ := hx.cells
            have HC := hide (itemParts_all _ x.items (Nat.lt_succ_self _) ai ci wr hrow)
            clear hx hrow hsh
            go_wp2_with fail
            refine HC.out.mono ?_
            rintro e w5 ⟨⟨v, hv, rfl⟩, hb5⟩
            have HB5 := hide (below_next hh.out.2.2.2 hb5)
            have HT := hide (hh.out.2.2.1 hn)
            clear hb5
            go_wp2_with fail
            go_roundg (d.boxes.length - (k + 1))
            case measure => rw [hu.out]; omega
            case rel => exact ⟨k + 1, wrap64 (n + v), hide rfl, by go_num, rfl, hide ⟨hlt, i64_wrap _, fun _ => HT.out, HB5.out⟩⟩
          · have hnd : decide (n ≤ 400) = false := decide_eq_false hn
            go_wp2_with fail
            go_ret
            exact ⟨⟨n, hh.out.2.1, rfl, hh.out.2.2.1⟩, below_next HB3.out hh.out.2.2.2⟩
        · have hlti : ¬ (k : Int) < (d.boxes.length : Int) := by omega
          go_wp2_with fail
          go_ret
          exact ⟨⟨n, hh.out.2.1, rfl, hh.out.2.2.1⟩, below_next HB3.out hh.out.2.2.2⟩
theorem sum_ge {α : Type} (f : α → Nat) : ∀ (l : List α) (x : α), x ∈ l → f x ≤ (l.map f).sum
  | [], x, h => by cases h
  | y :: l, x, h => by
    rw [List.map_cons, List.sum_cons]
    rcases List.mem_cons.1 h with rfl | h
    · omega
    · have := sum_ge f l x h; omega
theorem totD_eq (d : Df) : totD d = base0 d + (d.prods.map (fun p => p.syms.length)).sum + (d.chains.map chW).sum := by
  unfold totD t2 t1; rw [List.take_length, List.take_length]
theorem flatN_le (f : Pd → List ByteArray) (hf : ∀ p, (f p).length ≤ p.syms.length) : ∀ l : List Pd, (l.flatMap f).length ≤ (l.map (fun p => p.syms.length)).sum
  | [] => Nat.le_refl _
  | x :: l => by
    rw [List.flatMap_cons, List.length_append, List.map_cons, List.sum_cons]
    have := flatN_le f hf l
    have := hf x
    omega
theorem chainN_len (ch : List Gp) : (chainN ch).length = consN ch ch.length := by
  unfold chainN consN
  rw [List.take_length, List.length_flatMap]
theorem tot_small {d : Df} (h : totD d ≤ 400) : Small d := by
  rw [totD_eq] at h
  unfold base0 at h
  refine ⟨by omega, fun p hp => ?_, ?_, fun ch hc => ?_, by omega⟩
  · have := sum_ge (fun p : Pd => p.syms.length) d.prods p hp
    omega
  · unfold usedL
    simp only [List.length_append, List.length_map, rejN_len]
    have := flatN_le namesL (fun p => namesOf_len p.syms) d.prods
    omega
  · have := sum_ge chW d.chains ch hc
    rw [chainN_len]
    have e : chW ch = ch.length + consN ch ch.length := rfl
    omega
set_option maxHeartbeats 800000 in
set_option maxRecDepth 100000 in
theorem heavy_any (d : Df) (a2 : Option Addr) (c2 : Nat) (a3 : Option Addr) (c3 : Nat) (a4 : Option Addr) (c4 : Nat) (a5 : Option Addr) (c5 : Nat) (a6 : Option Addr) (c6 : Nat) (w : World) (hd : RD d ⟨a2, c2, a3, c3, a4, c4, a5, c5, a6, c6⟩ w) :
    Calls Try.prog 11 #[.agg #[.string d.start, .string d.layout, .slice a2 d.prods.length c2, .slice a3 d.chains.length c3, .slice a4 d.follows.length c4, .slice a5 d.rejects.length c5, .slice a6 d.boxes.length c6]] w fun e w' => (∃ b, e = .returned (.bool b) ∧ (b = false → totD d ≤ 400)) ∧ Below w.heap.size w w' := by
  have HB0 := hide (NB.alloc (Below.refl w.heap.size w) (.cells #[.string d.start, .string d.layout, .slice a2 d.prods.length c2, .slice a3 d.chains.length c3, .slice a4 d.follows.length c4, .slice a5 d.rejects.length c5, .slice a6 d.boxes.length c6] 28))
  have HC := hide (Parts_any d a2 c2 a3 c3 a4 c4 a5 c5 a6 c6 (w.alloc (.cells #[.string d.start, .string d.layout, .slice a2 d.prods.length c2, .slice a3 d.chains.length c3, .slice a4 d.follows.length c4, .slice a5 d.rejects.length c5, .slice a6 d.boxes.length c6] 28)) (hd.below HB0.out))
  clear hd
  go_enter Try.func11, Try.ntmps11
  go_wp2_with fail
  refine HC.out.mono ?_
  rintro e w5 ⟨⟨v, hv, rfl, hs⟩, hb5⟩
  have HB5 := hide (below_next HB0.out hb5)
  have HS := hide hs
  clear hb5 hs
  by_cases hn : v > 400
  · have hnd : decide (v > 400) = true := decide_eq_true hn
    go_wp2_with fail
    go_ret
    exact ⟨⟨true, by first | rfl | rw [hnd], fun h => absurd h (by decide)⟩, HB5.out⟩
  · have hnd : decide (v > 400) = false := decide_eq_false hn
    go_wp2_with fail
    go_ret
    exact ⟨⟨false, by first | rfl | rw [hnd], fun _ => HS.out (by omega)⟩, HB5.out⟩
end Go.Proofs.Ytalicfpcmcbdbaa
