/- The plain laws of LayoutTexts and LayoutBreaks. -/
import Derived.Test.YtcmhlfnmjpmjhaaPNest
set_option linter.unusedVariables false
set_option linter.unusedSimpArgs false
set_option linter.unnecessarySimpa false
set_option linter.deprecated false
namespace Go.Proofs.Ytcmhlfnmjpmjhaa
open Go.RowKit

/-- Without breaks and blanks. -/
def wo (s : List UInt8) : List UInt8 := s.filter fun b => b != 10 && b != 32
theorem wo_append (a b : List UInt8) : wo (a ++ b) = wo a ++ wo b := by unfold wo; simp
theorem wo_wrap (i : Nat) : wo (10 :: List.replicate i 32) = [] := by
  unfold wo
  rw [List.filter_eq_nil_iff]
  intro b hb
  rcases List.mem_cons.1 hb with rfl | hb
  · simp
  · rw [List.eq_of_mem_replicate hb]; simp
mutual
/-- The texts of lines are breaks and blanks alone. -/
def blkJ : Jb → Prop
  | .text _ => True
  | .line s _ _ => wo s.data.toList = []
  | .hard _ => True
  | .many ks _ => blkL ks
def blkL : List Jb → Prop
  | [] => True
  | x :: xs => blkJ x ∧ blkL xs
end
mutual
/-- How many hard breaks. -/
def hcJ : Jb → Nat
  | .text _ => 0
  | .line _ _ _ => 0
  | .hard _ => 1
  | .many ks _ => hcL ks
def hcL : List Jb → Nat
  | [] => 0
  | x :: xs => hcJ x + hcL xs
end
mutual
/-- How many lines. -/
def lcJ : Jb → Nat
  | .text _ => 0
  | .line _ _ _ => 1
  | .hard _ => 0
  | .many ks _ => lcL ks
def lcL : List Jb → Nat
  | [] => 0
  | x :: xs => lcJ x + lcL xs
end
mutual
theorem lay_wo : ∀ (j : Jb) (fl : Bool) (t : Nat) (st : Wst), blkJ j → (layJ j fl t st).long = false → wo (layJ j fl t st).out = wo st.out ++ wo (txJ j)
  | .text s, fl, t, st, hb, h => by
    have l := layJ_nl h
    rw [layJ, if_neg (by rw [l]; simp)] at h ⊢
    rw [putM_nl h, txJ, wo_append]
  | .line s i f, fl, t, st, hb, h => by
    have l := layJ_nl h
    rw [blkJ] at hb
    rw [layJ, if_neg (by rw [l]; simp)] at h ⊢
    cases hc : (f || fl) with
    | true =>
      simp only [hc, ↓reduceIte] at h ⊢
      rw [putM_nl h, txJ, wo_append]
    | false =>
      simp only [hc, Bool.false_eq_true, ↓reduceIte] at h ⊢
      rw [wrapM_nl h, txJ, wo_append, wo_wrap, hb]
  | .hard i, fl, t, st, hb, h => by
    have l := layJ_nl h
    rw [layJ, if_neg (by rw [l]; simp)] at h ⊢
    rw [wrapM_nl h, txJ, wo_append, wo_wrap]
    rfl
  | .many ks g, fl, t, st, hb, h => by
    have l := layJ_nl h
    rw [blkJ] at hb
    rw [layJ, if_neg (by rw [l]; simp)] at h ⊢
    rw [txJ]
    split at h
    · rename_i c; rw [if_pos c]
      split at h
      · rename_i c; rw [if_pos c]; exact lay_woL ks _ _ _ hb h
      · rename_i c; rw [if_neg c]; exact lay_woL ks _ _ _ hb h
    · rename_i c; rw [if_neg c]; exact lay_woL ks _ _ _ hb h
theorem lay_woL : ∀ (js : List Jb) (fl : Bool) (t : Nat) (st : Wst), blkL js → (layL js fl t st).long = false → wo (layL js fl t st).out = wo st.out ++ wo (txJL js)
  | [], fl, t, st, hb, h => by rw [layL, txJL]; simp [wo]
  | x :: xs, fl, t, st, hb, h => by
    rw [blkL] at hb
    rw [layL] at h ⊢
    rw [lay_woL xs _ _ _ hb.2 h, lay_wo x _ _ _ hb.1 (layL_nl h), txJL, wo_append, List.append_assoc]
end
/-- How many breaks. -/
def c10 (s : List UInt8) : Nat := s.countP (· == 10)
theorem c10_append (a b : List UInt8) : c10 (a ++ b) = c10 a + c10 b := by unfold c10; simp
theorem c10_none (s : List UInt8) (h : (10 : UInt8) ∉ s) : c10 s = 0 := by
  unfold c10
  rw [List.countP_eq_zero]
  intro x hx e
  have : x = 10 := by simpa using e
  exact h (this ▸ hx)
theorem c10_wrap (i : Nat) : c10 (10 :: List.replicate i 32) = 1 := by
  have := c10_none (List.replicate i 32) (by intro h; have := List.eq_of_mem_replicate h; cases this)
  unfold c10 at this ⊢
  rw [List.countP_cons, this]
  rfl
mutual
theorem lay_c10 : ∀ (j : Jb) (fl : Bool) (t : Nat) (st : Wst), freeJ j → (layJ j fl t st).long = false → c10 st.out + hcJ j ≤ c10 (layJ j fl t st).out ∧ c10 (layJ j fl t st).out ≤ c10 st.out + hcJ j + lcJ j
  | .text s, fl, t, st, hf, h => by
    have l := layJ_nl h
    rw [freeJ] at hf
    rw [layJ, if_neg (by rw [l]; simp)] at h ⊢
    rw [putM_nl h, hcJ, lcJ]
    simp only [c10_append, c10_none _ hf]
    omega
  | .line s i f, fl, t, st, hf, h => by
    have l := layJ_nl h
    rw [freeJ] at hf
    rw [layJ, if_neg (by rw [l]; simp)] at h ⊢
    cases hc : (f || fl) with
    | true =>
      simp only [hc, ↓reduceIte] at h ⊢
      rw [putM_nl h, hcJ, lcJ]
      simp only [c10_append, c10_none _ hf]
      omega
    | false =>
      simp only [hc, Bool.false_eq_true, ↓reduceIte] at h ⊢
      rw [wrapM_nl h, hcJ, lcJ]
      simp only [c10_append, c10_wrap]
      omega
  | .hard i, fl, t, st, hf, h => by
    have l := layJ_nl h
    rw [layJ, if_neg (by rw [l]; simp)] at h ⊢
    rw [wrapM_nl h, hcJ, lcJ]
    simp only [c10_append, c10_wrap]
    omega
  | .many ks g, fl, t, st, hf, h => by
    have l := layJ_nl h
    rw [freeJ] at hf
    rw [layJ, if_neg (by rw [l]; simp)] at h ⊢
    rw [hcJ, lcJ]
    split at h
    · rename_i c; rw [if_pos c]
      split at h
      · rename_i c; rw [if_pos c]; exact lay_c10L ks _ _ _ hf h
      · rename_i c; rw [if_neg c]; exact lay_c10L ks _ _ _ hf h
    · rename_i c; rw [if_neg c]; exact lay_c10L ks _ _ _ hf h
theorem lay_c10L : ∀ (js : List Jb) (fl : Bool) (t : Nat) (st : Wst), freeL js → (layL js fl t st).long = false → c10 st.out + hcL js ≤ c10 (layL js fl t st).out ∧ c10 (layL js fl t st).out ≤ c10 st.out + hcL js + lcL js
  | [], fl, t, st, hf, h => by rw [layL, hcL, lcL]; omega
  | x :: xs, fl, t, st, hf, h => by
    rw [freeL] at hf
    rw [layL] at h ⊢
    have h1 := lay_c10L xs _ _ _ hf.2 h
    have h2 := lay_c10 x fl _ st hf.1 (layL_nl h)
    rw [hcL, lcL]
    omega
end
def isK (k : Int) (x : Dc) : Bool := x.kind == k
mutual
theorem cnt_leafs : ∀ (d : Dc) (i : Int), hcJ (jobOf d i) = (leafs d).countP (isK 3) ∧ lcJ (jobOf d i) = (leafs d).countP (isK 2)
  | .mk k t n ks, i => by
    rw [jobOf, leafs]
    by_cases h1 : k = 1
    · subst h1
      rw [if_pos rfl, if_pos (Or.inl rfl), hcJ, lcJ]
      simp [isK, Dc.kind]
    · rw [if_neg h1]
      by_cases h2 : k = 2
      · subst h2
        rw [if_pos rfl, if_pos (Or.inr (Or.inl rfl)), hcJ, lcJ]
        simp [isK, Dc.kind]
      · rw [if_neg h2]
        by_cases h3 : k = 3
        · subst h3
          rw [if_pos rfl, if_pos (Or.inr (Or.inr rfl)), hcJ, lcJ]
          simp [isK, Dc.kind]
        · rw [if_neg h3, if_neg (show ¬ (k = 1 ∨ k = 2 ∨ k = 3) by omega), hcJ, lcJ]
          exact cnt_leafsL ks _
theorem cnt_leafsL : ∀ (ks : List Dc) (i : Int), hcL (jobsOf ks i) = (leafsL ks).countP (isK 3) ∧ lcL (jobsOf ks i) = (leafsL ks).countP (isK 2)
  | [], i => by rw [jobsOf, hcL, lcL, leafsL]; exact ⟨rfl, rfl⟩
  | x :: xs, i => by
    obtain ⟨a1, a2⟩ := cnt_leafs x i
    obtain ⟨b1, b2⟩ := cnt_leafsL xs i
    rw [jobsOf, hcL, lcL, leafsL, List.countP_append, List.countP_append, a1, a2, b1, b2]
    exact ⟨rfl, rfl⟩
end
mutual
theorem blk_leafs : ∀ (d : Dc) (i : Int), (∀ x ∈ leafs d, x.kind = 2 → wo (ltx x) = []) → blkJ (jobOf d i)
  | .mk k t n ks, i, h => by
    rw [jobOf]
    rw [leafs] at h
    by_cases h1 : k = 1
    · rw [if_pos h1, blkJ]; trivial
    · rw [if_neg h1]
      by_cases h2 : k = 2
      · subst h2
        rw [if_pos rfl, blkJ]
        rw [if_pos (Or.inr (Or.inl rfl))] at h
        exact h _ (List.mem_singleton.2 rfl) rfl
      · rw [if_neg h2]
        by_cases h3 : k = 3
        · rw [if_pos h3, blkJ]; trivial
        · rw [if_neg h3, blkJ]
          rw [if_neg (show ¬ (k = 1 ∨ k = 2 ∨ k = 3) by omega)] at h
          exact blk_leafsL ks _ h
theorem blk_leafsL : ∀ (ks : List Dc) (i : Int), (∀ x ∈ leafsL ks, x.kind = 2 → wo (ltx x) = []) → blkL (jobsOf ks i)
  | [], i, h => by rw [jobsOf, blkL]; trivial
  | x :: xs, i, h => by
    rw [jobsOf, blkL]
    rw [leafsL] at h
    exact ⟨blk_leafs x i fun y hy => h y (List.mem_append_left _ hy), blk_leafsL xs i fun y hy => h y (List.mem_append_right _ hy)⟩
end
theorem wo_flatMap (l : List Dc) : wo (l.flatMap ltx) = l.flatMap fun x => wo (ltx x) := by
  induction l with
  | nil => rfl
  | cons x xs ih => rw [List.flatMap_cons, wo_append, ih, List.flatMap_cons]
/-- But for breaks and blanks the texts are written. -/
theorem texts_same (d : Dc) (width : Int) (s : ByteArray) (hs : rendM d width = (s, 0)) (hb : ∀ x ∈ leafs d, x.kind = 2 → wo (ltx x) = []) : wo s.data.toList = (leafs d).flatMap fun x => wo (ltx x) := by
  obtain ⟨r, l, rfl⟩ := rend_ok hs
  rw [outM_lay] at l ⊢
  have := lay_wo _ _ _ _ (blk_leafs d 0 hb) l
  simp only []
  rw [this, (tx_leafs d 200 0 r).1, wo_flatMap]
  rfl
theorem rend_bad {d : Dc} {w : Int} {s : ByteArray} {e : Int} (h : rendM d w = (s, e)) (he : e ≠ 0) : s = emptyB := by
  unfold rendM at h
  split at h
  · split at h
    · cases h; rfl
    · cases h; exact absurd rfl he
  · cases h; rfl
/-- Breaks are written as hard ones and lines say. -/
theorem breaks_some (d : Dc) (width : Int) (s : ByteArray) (hs : rendM d width = (s, 0)) : (leafs d).countP (isK 3) ≤ c10 s.data.toList ∧ c10 s.data.toList ≤ (leafs d).countP (isK 3) + (leafs d).countP (isK 2) := by
  obtain ⟨r, l, rfl⟩ := rend_ok hs
  rw [outM_lay] at l ⊢
  have := lay_c10 _ _ _ _ (free_job d 200 0 r) l
  rw [(cnt_leafs d 0).1, (cnt_leafs d 0).2, show c10 (st0 width).out = 0 from rfl] at this
  simp only [Nat.zero_add] at this
  exact this
end Go.Proofs.Ytcmhlfnmjpmjhaa
