/- The fixed calls. -/
import Derived.Test.YtalicfpcmcbdbaaNumC
import Derived.Test.YtalicfpcmcbdbaaSoUs
import Derived.Test.YtalicfpcmcbdbaaCons
set_option linter.unusedVariables false
set_option linter.unusedSimpArgs false
set_option linter.unnecessarySimpa false
set_option linter.deprecated false
namespace Go.Proofs.Ytalicfpcmcbdbaa
open Go.RowKit

theorem ckN (k : Nat) (W : World) (h : NumAt bN k W) : Calls Try.prog 14 #[.agg #[.string ⟨#[69]⟩, .string ⟨#[]⟩, .slice (some ⟨k + 3, 0, none⟩) 3 3, .slice none 0 0, .slice none 0 0, .slice none 0 0, .slice none 0 0]] W fun e w' => e = .returned (.tuple #[.int .i64 0, .string ⟨#[]⟩]) ∧ Below W.heap.size W w' := by
  have := Check_any (numD bN) _ _ _ _ _ _ _ _ _ _ W (h.rd sz78) num_small
  rw [num_check] at this
  exact this
theorem ckE (k : Nat) (W : World) (h : NumAt bE k W) : Calls Try.prog 14 #[.agg #[.string ⟨#[69]⟩, .string ⟨#[]⟩, .slice (some ⟨k + 3, 0, none⟩) 3 3, .slice none 0 0, .slice none 0 0, .slice none 0 0, .slice none 0 0]] W fun e w' => e = .returned (.tuple #[.int .i64 48, .string ⟨#[69]⟩]) ∧ Below W.heap.size W w' := by
  have := Check_any (numD bE) _ _ _ _ _ _ _ _ _ _ W (h.rd sz69) numE_small
  rw [numE_check] at this
  exact this
theorem soN (k : Nat) (W : World) (h : NumAt bN k W) : Calls Try.prog 22 #[.agg #[.string ⟨#[69]⟩, .string ⟨#[]⟩, .slice (some ⟨k + 3, 0, none⟩) 3 3, .slice none 0 0, .slice none 0 0, .slice none 0 0, .slice none 0 0]] W fun e w' => ∃ a c, e = .returned (.slice a 2 c) ∧ Hid (∃ b o, a = some ⟨b, o, none⟩ ∧ b < w'.heap.size ∧ w'.cell? ⟨b, o + 1, none⟩ = some (.string ⟨#[78]⟩)) ∧ Below W.heap.size W w' := by
  refine (sorts_any (numD bN) _ _ _ _ _ _ _ _ _ _ W (h.rd sz78) num_small.pl5).mono ?_
  rintro e w' ⟨v, rfl, ho, hb⟩
  rw [num_sorts] at ho
  obtain ⟨a, c, rfl, hr⟩ := ho.row (by decide)
  obtain ⟨b, o, rfl, hlt, hat⟩ := hr.get (k := 1) (by decide)
  exact ⟨_, _, rfl, hide ⟨b, o, rfl, hlt, (hat 1 (by decide)).2⟩, hb⟩
theorem coN (k : Nat) (W : World) (h : NumAt bN k W) : Calls Try.prog 21 #[.agg #[.string ⟨#[69]⟩, .string ⟨#[]⟩, .slice (some ⟨k + 3, 0, none⟩) 3 3, .slice none 0 0, .slice none 0 0, .slice none 0 0, .slice none 0 0], .string ⟨#[78]⟩] W fun e w' => e = .returned (.int .i64 1) ∧ Below W.heap.size W w' := by
  have := Cons_at (numD bN) (some ⟨k + 3, 0, none⟩) 3 none 0 none 0 none 0 none 0 bN W (h.rd sz78).p
  rw [num_cons] at this
  exact this
set_option maxHeartbeats 800000 in
set_option maxRecDepth 100000 in
theorem alive_any (w : World) : Calls Try.prog 12 #[] w fun e w' => e = .returned (.bool true) ∧ Below w.heap.size w w' := by
  go_enter Try.func12, Try.ntmps12
  go_wp2_with fail
  refine (num_at w).mono ?_
  rintro e w1 ⟨k1, rfl, h1⟩
  have H1 := hide h1.out
  clear h1
  have HC1 := hide (ckN k1 w1 H1.out.1)
  go_wp2_with fail
  refine HC1.out.mono ?_
  rintro e w2 ⟨rfl, hb2⟩
  have HB2 := hide (below_next H1.out.2.2 hb2)
  clear hb2 HC1
  go_wp2_with fail
  refine (num_at w2).mono ?_
  rintro e w3 ⟨k3, rfl, h3⟩
  have H3 := hide h3.out
  have HB3 := hide (below_next HB2.out h3.out.2.2)
  clear h3
  go_upto_region 3 with fail
  obtain ⟨w4, h4⟩ : ∃ w4, w3.alloc (.cells #[.string ⟨#[69]⟩, .string ⟨#[]⟩, .slice (some ⟨k3 + 3, 0, none⟩) 3 3, .slice none 0 0, .slice none 0 0, .slice none 0 0, .slice none 0 0] 28) = w4 := ⟨_, rfl⟩
  obtain ⟨kx, hkx⟩ : ∃ kx, w3.heap.size = kx := ⟨_, rfl⟩
  have HB4 := hide (show Below w.heap.size w w4 by rw [← h4]; exact NB.alloc HB3.out _)
  have HX4 := hide (show Blk w4 kx #[.string ⟨#[69]⟩, .string ⟨#[]⟩, .slice (some ⟨k3 + 3, 0, none⟩) 3 3, .slice none 0 0, .slice none 0 0, .slice none 0 0, .slice none 0 0] 28 by rw [← h4, ← hkx]; exact Blk.new w3 _ _)
  have HN4 := hide (show NumAt bN k3 w4 by rw [← h4]; exact H3.out.1.below (NB.alloc (Below.refl _ _) _))
  have HK3 := hide (show w.heap.size ≤ k3 from Nat.le_trans HB2.out.size H3.out.2.1)
  rw [h4, hkx]
  clear h4 hkx
  have x2 := HX4.out.cell 2
  have xl := HX4.out.lt
  have y9 := HN4.out.b3.cell 9
  have yl := HN4.out.b3.lt
  have z6 := HN4.out.b1.cell 6
  have zl := HN4.out.b1.lt
  have zf := HN4.out.b1.free 6
  go_upto_region 4 with fail
  have HE5 := hide (show NumAt bE k3 (w4.setCell ⟨k3 + 1, 6, none⟩ (.string ⟨#[69]⟩)) from ⟨HN4.out.b0.other (by omega), HN4.out.b1.set 6 _, HN4.out.b2.other (by omega), HN4.out.b3.other (by omega)⟩)
  have HX5 := hide (HX4.out.other (x := .string ⟨#[69]⟩) (i := 6) (show kx ≠ k3 + 1 from HX4.out.ne HN4.out.b1 (by decide)))
  have HB5 := hide (show Below w.heap.size w (w4.setCell ⟨k3 + 1, 6, none⟩ (.string ⟨#[69]⟩)) from HB4.out.setCell (by have := HK3.out; simp only; omega) _)
  clear x2 xl y9 yl z6 zl zf
  generalize w4.setCell ⟨k3 + 1, 6, none⟩ (.string ⟨#[69]⟩) = w5 at HE5 HX5 HB5 ⊢
  have x0 := HX5.out.cell 0
  have x1 := HX5.out.cell 1
  have x2 := HX5.out.cell 2
  have x3 := HX5.out.cell 3
  have x4 := HX5.out.cell 4
  have x5 := HX5.out.cell 5
  have x6 := HX5.out.cell 6
  have xl := HX5.out.lt
  have HC5 := hide (ckE k3 w5 HE5.out)
  go_wp2_with fail
  refine HC5.out.mono ?_
  rintro e w6 ⟨rfl, hb6⟩
  have HB6 := hide (below_next HB5.out hb6)
  clear hb6 x0 x1 x2 x3 x4 x5 x6 xl HC5
  go_wp2_with fail
  refine (num_at w6).mono ?_
  rintro e w7 ⟨k7, rfl, h7⟩
  have H7 := hide h7.out.1
  have HB7 := hide (below_next HB6.out h7.out.2.2)
  clear h7
  have HC7 := hide (soN k7 w7 H7.out)
  go_wp2_with fail
  refine HC7.out.mono ?_
  rintro e w8 ⟨a8, c8, rfl, h8, hb8⟩
  obtain ⟨b8, o8, rfl, hl8, hc8⟩ := h8.out
  have HB8 := hide (below_next HB7.out hb8)
  clear h8 hb8
  go_wp2_with fail
  refine (num_at w8).mono ?_
  rintro e w9 ⟨k9, rfl, h9⟩
  have H9 := hide h9.out.1
  have HB9 := hide (below_next HB8.out h9.out.2.2)
  clear h9
  have HC9 := hide (coN k9 w9 H9.out)
  go_wp2_with fail
  refine HC9.out.mono ?_
  rintro e w10 ⟨rfl, hb10⟩
  have HB10 := hide (below_next HB9.out hb10)
  clear hb10
  go_wp2_with fail
  go_ret
  exact ⟨rfl, HB10.out⟩
end Go.Proofs.Ytalicfpcmcbdbaa
