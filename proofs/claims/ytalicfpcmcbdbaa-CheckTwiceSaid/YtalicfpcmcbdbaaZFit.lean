/- What Copy answers. Definitions that can be copied. -/
import Derived.Test.YtalicfpcmcbdbaaZCpC
import Derived.Test.YtalicfpcmcbdbaaZPerm
import Derived.Test.YtalicfpcmcbdbaaZParts
set_option linter.unusedVariables false
set_option linter.unusedSimpArgs false
set_option linter.unnecessarySimpa false
set_option linter.deprecated false
namespace Go.Proofs.Ytalicfpcmcbdbaa
open Go.RowKit

/-- A copy of a definition, all in memory of one's own. -/
structure Cpd (d : Df) (B : Nat) (vP vC vF vR vB : Value) (cP cC cF cR cB : List (List Value)) (W : World) : Prop where
  p : OwnE EP B 38 5 d.prods vP cP W
  c : OwnE EC B 66 1 d.chains vC cC W
  f : OwnE EF B 48 5 d.follows vF cF W
  r : OwnE ER B 50 2 d.rejects vR cR W
  b : OwnE EB B 53 2 d.boxes vB cB W
theorem CpS.fin {d : Df} {vP vC vF vR vB : Value} {cP cC cF cR cB : List (List Value)} {W : World} {w1 : World} {kz : Nat} (h : CpS d w1 kz d.prods.length d.chains.length d.follows.length d.rejects.length d.boxes.length vP vC vF vR vB cP cC cF cR cB W) : Cpd d w1.heap.size vP vC vF vR vB cP cC cF cR cB W := by
  have hp := h.p
  rw [List.take_length] at hp
  have hc := h.c
  rw [List.take_length] at hc
  have hf := h.f
  rw [List.take_length] at hf
  have hr := h.r
  rw [List.take_length] at hr
  have hb := h.b
  rw [List.take_length] at hb
  exact ⟨hp, hc, hf, hr, hb⟩
theorem Cpd.touch {d : Df} {vP vC vF vR vB : Value} {cP cC cF cR cB : List (List Value)} {W : World} {B : Nat} {W' : World} (h : Cpd d B vP vC vF vR vB cP cC cF cR cB W) (ht : Touch W W' 28) : Cpd d B vP vC vF vR vB cP cC cF cR cB W' :=
  ⟨h.p.touch ht (by decide) (EP.st (by decide)), h.c.touch ht (by decide) (EC.st (by decide) (by decide)), h.f.touch ht (by decide) (EF.st), h.r.touch ht (by decide) (ER.st), h.b.touch ht (by decide) (EB.st (by decide))⟩
theorem Cpd.base {d : Df} {vP vC vF vR vB : Value} {cP cC cF cR cB : List (List Value)} {W : World} {B B' : Nat} (h : Cpd d B vP vC vF vR vB cP cC cF cR cB W) (hB : B' ≤ B) : Cpd d B' vP vC vF vR vB cP cC cF cR cB W := ⟨h.p.base hB, h.c.base hB, h.f.base hB, h.r.base hB, h.b.base hB⟩
theorem Cpd.below {d : Df} {vP vC vF vR vB : Value} {cP cC cF cR cB : List (List Value)} {W : World} {B : Nat} {W' : World} (h : Cpd d B vP vC vF vR vB cP cC cF cR cB W) (hb : Below W.heap.size W W') : Cpd d B vP vC vF vR vB cP cC cF cR cB W' := h.touch (Touch.of_below hb)
/-- It reads as the definition. -/
theorem Cpd.rd {d : Df} {vP vC vF vR vB : Value} {cP cC cF cR cB : List (List Value)} {W : World} {B : Nat} (h : Cpd d B vP vC vF vR vB cP cC cF cR cB W) (hf : FitD d) (hs : short d.start) (hl : short d.layout) : ∃ a2 c2 a3 c3 a4 c4 a5 c5 a6 c6, vP = .slice a2 d.prods.length c2 ∧ vC = .slice a3 d.chains.length c3 ∧ vF = .slice a4 d.follows.length c4 ∧ vR = .slice a5 d.rejects.length c5 ∧ vB = .slice a6 d.boxes.length c6 ∧ RD d ⟨a2, c2, a3, c3, a4, c4, a5, c5, a6, c6⟩ W := by
  obtain ⟨a2, c2, rfl, h2, _⟩ := h.p.row (At := PdAt) (fun x hx cs b o he hc => he.at hc (by have := hf.s.sl x hx; omega)) (by have := hf.s.pl; omega)
  obtain ⟨a3, c3, rfl, h3, _⟩ := h.c.row (At := ChAt) (fun x hx cs b o he hc => he.at hc (by have := hf.gl x hx; omega) (fun g hg => by have := hf.nl x hx g hg; omega)) (by have := hf.cl; omega)
  obtain ⟨a4, c4, rfl, h4, _⟩ := h.f.row (At := FlAt) (fun x _ cs b o he hc => ⟨he.2, by rw [← he.1]; exact hc⟩) (by have := hf.s.rl; omega)
  obtain ⟨a5, c5, rfl, h5, hq⟩ := h.r.row (At := RjAt) (fun x _ cs b o he hc => ⟨he.2, by rw [← he.1]; exact hc⟩) (by have := hf.s.rl; omega)
  obtain ⟨a6, c6, rfl, h6, _⟩ := h.b.row (At := BxAt) (fun x hx cs b o he hc => he.at hc (hf.bx x hx)) (by have := hf.s.bl; omega)
  exact ⟨a2, c2, a3, c3, a4, c4, a5, c5, a6, c6, rfl, rfl, rfl, rfl, rfl, hs, hl, h2, h3, h4, h5, h6, hq⟩
def set7 (W : World) (g : Nat) (x0 x1 x2 x3 x4 x5 x6 : Value) : World := ((((((W.setCell ⟨g, 0, none⟩ x0).setCell ⟨g, 1, none⟩ x1).setCell ⟨g, 2, none⟩ x2).setCell ⟨g, 3, none⟩ x3).setCell ⟨g, 4, none⟩ x4).setCell ⟨g, 5, none⟩ x5).setCell ⟨g, 6, none⟩ x6
theorem set7_blk {W : World} {g : Nat} {y0 y1 y2 y3 y4 y5 y6 : Value} (x0 x1 x2 x3 x4 x5 x6 : Value) (hb : Blk W g #[y0, y1, y2, y3, y4, y5, y6] 28) : Blk (set7 W g x0 x1 x2 x3 x4 x5 x6) g #[x0, x1, x2, x3, x4, x5, x6] 28 := by
  have h := ((((((hb.set 0 x0).set 1 x1).set 2 x2).set 3 x3).set 4 x4).set 5 x5).set 6 x6
  unfold set7
  simp only [List.setIfInBounds_toArray, List.set_cons_zero, List.set_cons_succ] at h
  exact h
theorem set7_touch {W : World} {g : Nat} {c : Array Value} (x0 x1 x2 x3 x4 x5 x6 : Value) (hb : Blk W g c 28) {d : Df} {vP vC vF vR vB : Value} {cP cC cF cR cB : List (List Value)} {B : Nat} (h : Cpd d B vP vC vF vR vB cP cC cF cR cB W) : Cpd d B vP vC vF vR vB cP cC cF cR cB (set7 W g x0 x1 x2 x3 x4 x5 x6) := by
  have b0 := hb.set 0 x0
  have b1 := b0.set 1 x1
  have b2 := b1.set 2 x2
  have b3 := b2.set 3 x3
  have b4 := b3.set 4 x4
  have b5 := b4.set 5 x5
  have h0 := h.touch (Touch.set (i := 0) hb x0)
  have h1 := h0.touch (Touch.set (i := 1) b0 x1)
  have h2 := h1.touch (Touch.set (i := 2) b1 x2)
  have h3 := h2.touch (Touch.set (i := 3) b2 x3)
  have h4 := h3.touch (Touch.set (i := 4) b3 x4)
  have h5 := h4.touch (Touch.set (i := 5) b4 x5)
  have h6 := h5.touch (Touch.set (i := 6) b5 x6)
  unfold set7
  exact h6
theorem set7_below {W w : World} {g B : Nat} (x0 x1 x2 x3 x4 x5 x6 : Value) (h : Below B w W) (hg : B ≤ g) : Below B w (set7 W g x0 x1 x2 x3 x4 x5 x6) :=
  ((((((h.setCell hg x0).setCell hg x1).setCell hg x2).setCell hg x3).setCell hg x4).setCell hg x5).setCell hg x6
theorem ret13 {R : Ending → World → Prop} {a : Act} {W : World} {k : Nat} {x0 x1 x2 x3 x4 x5 x6 : Value} (h4 : (a.tmps[2]?).getD undef = .pointer (some ⟨k, 0, none⟩)) (hd : a.defers = []) (hb : Blk W k #[x0, x1, x2, x3, x4, x5, x6] 28) (hR : R (.returned (.agg #[x0, x1, x2, x3, x4, x5, x6])) W) : bodyPost Try.prog Try.f13 R .ret a W := by
  have f0 : W.cell? ⟨k, 0, none⟩ = some x0 := hb.cell 0
  have f1 : W.cell? ⟨k, 1, none⟩ = some x1 := hb.cell 1
  have f2 : W.cell? ⟨k, 2, none⟩ = some x2 := hb.cell 2
  have f3 : W.cell? ⟨k, 3, none⟩ = some x3 := hb.cell 3
  have f4 : W.cell? ⟨k, 4, none⟩ = some x4 := hb.cell 4
  have f5 : W.cell? ⟨k, 5, none⟩ = some x5 := hb.cell 5
  have f6 : W.cell? ⟨k, 6, none⟩ = some x6 := hb.cell 6
  refine ⟨hd, .agg #[x0, x1, x2, x3, x4, x5, x6], ?_, hR⟩
  simp [results, Try.results13, h4, go_sem, f0, f1, f2, f3, f4, f5, f6, Try.isAgg28, Try.sizeOf28]
/-- What Copy answers. -/
def CpyP (d : Df) (w : World) (e : Ending) (w' : World) : Prop := ∃ vP vC vF vR vB cP cC cF cR cB, e = .returned (.agg #[.string d.start, .string d.layout, vP, vC, vF, vR, vB]) ∧ Hid (Cpd d w.heap.size vP vC vF vR vB cP cC cF cR cB w') ∧ Below w.heap.size w w'
end Go.Proofs.Ytalicfpcmcbdbaa

set_option linter.unusedVariables false
set_option linter.unusedSimpArgs false
set_option linter.unnecessarySimpa false
set_option linter.deprecated false
namespace Go.Proofs.Ytalicfpcmcbdbaa
open Go.RowKit

theorem rI_lt : ∀ (x : It) (m k : Int), rI x m = some k → k + 1 ≤ m ∧ 0 ≤ k
  | .mk kd t n l, m, k, h => by
    have h1 := rI_le (.mk kd t n l) m k h
    rw [rI] at h
    split at h
    · have := rI_le.rIs_le l (m - 1) k h
      omega
    · cases h
theorem rIs_len : ∀ (l : List It) (m k : Int), rIs l m = some k → k + (l.length : Int) ≤ m
  | [], m, k, h => by rw [rIs] at h; injection h with h; simp; omega
  | x :: xs, m, k, h => by
    rw [rIs] at h
    split at h
    · cases h
    · rename_i j hj
      have h1 := rI_lt x m j hj
      have h2 := rIs_len xs j k h
      simp only [List.length_cons]
      omega
theorem rIs_mem : ∀ (l : List It) (m k : Int), rIs l m = some k → m ≤ 64 → ∀ x ∈ l, ∃ m' k', rI x m' = some k' ∧ m' ≤ 64
  | [], m, k, h, _, x, hx => by cases hx
  | y :: ys, m, k, h, hm, x, hx => by
    rw [rIs] at h
    split at h
    · cases h
    · rename_i j hj
      have h1 := rI_lt y m j hj
      rcases List.mem_cons.1 hx with rfl | hx
      · exact ⟨m, j, hj, hm⟩
      · exact rIs_mem ys j k h (by omega) x hx
theorem fit_all : ∀ (N : Nat) (x : It), SizeOf.sizeOf x < N → ∀ (m k : Int), rI x m = some k → m ≤ 64 → FitI x := by
  intro N
  induction N with
  | zero => intro x h; exact absurd h (Nat.not_lt_zero _)
  | succ N ih =>
    rintro ⟨kd, t, n, l⟩ hN m k h hm
    have h1 := rI_lt _ m k h
    have hh := h
    rw [rI] at hh
    split at hh
    · have h2 := rIs_len l (m - 1) k hh
      refine .mk _ (by show l.length * 56 ≤ _; omega) (fun y hy => ?_)
      obtain ⟨m', k', h3, h4⟩ := rIs_mem l (m - 1) k hh (by omega) y hy
      exact ih y (by
        have h5 := sizeOf_kids (.mk kd t n l)
        have h6 := List.sizeOf_lt_of_mem hy
        have h7 : SizeOf.sizeOf (It.mk kd t n l).kids = SizeOf.sizeOf l := rfl
        omega) m' k' h3 h4
    · cases hh
theorem OkD.fit {d : Df} (h : OkD d) : ∀ x ∈ d.boxes, FitIs x.items := fun x hx => by
  have hf := h.form
  unfold rightDfB at hf
  simp only [Bool.and_eq_true] at hf
  have hb := List.all_eq_true.1 hf.2.2.2.2.2.2.2 x hx
  unfold rightBxB at hb
  rw [Bool.and_eq_true] at hb
  obtain ⟨k, hk⟩ := Option.isSome_iff_exists.1 hb.2
  have hl := rIs_len x.items 64 k hk
  have hk0 := (rI_le.rIs_le x.items 64 k hk).2 (by decide)
  refine ⟨by omega, fun y hy => ?_⟩
  obtain ⟨m', k', h3, h4⟩ := rIs_mem x.items 64 k hk (by decide) y hy
  exact fit_all _ y (Nat.lt_succ_self _) m' k' h3 h4
theorem tot_fit {d : Df} (h : totD d ≤ 400) (hb : ∀ x ∈ d.boxes, FitIs x.items) : FitD d := by
  have hs := tot_small h
  rw [totD_eq] at h
  unfold base0 at h
  refine ⟨hs, by omega, fun ch hc => ?_, fun ch hc g hg => ?_, hb⟩
  · have := sum_ge chW d.chains ch hc
    have e : chW ch = ch.length + consN ch ch.length := rfl
    omega
  · have := sum_ge chW d.chains ch hc
    have e : chW ch = ch.length + consN ch ch.length := rfl
    have h2 := sum_ge (fun g : Gp => g.cons.length) ch g hg
    unfold consN at e
    rw [List.take_length] at e
    omega
end Go.Proofs.Ytalicfpcmcbdbaa
