/- The machine that writes, plain: it ends, and stays within bounds. -/
import Derived.Test.YtcmhlfnmjpmjhaaRight
set_option linter.unusedVariables false
set_option linter.unusedSimpArgs false
set_option linter.unnecessarySimpa false
set_option linter.deprecated false
namespace Go.Proofs.Ytcmhlfnmjpmjhaa
open Go.RowKit

/-- Steps, as many as told at the most. -/
def runM : Nat → Wst → List Jb → Wst
  | 0, st, _ => st
  | n + 1, st, js => if st.long then st else match js.getLast? with | none => st | some j => runM n (writeM j st js.dropLast).1 (writeM j st js.dropLast).2
theorem runM_nil (n : Nat) (st : Wst) : runM n st [] = st := by
  cases n with
  | zero => rfl
  | succ n => rw [runM]; split <;> rfl
theorem runM_long (n : Nat) (st : Wst) (js : List Jb) (h : st.long = true) : runM n st js = st := by
  cases n with
  | zero => rfl
  | succ n => rw [runM, if_pos h]
theorem runM_step (n : Nat) (st : Wst) (rest : List Jb) (j : Jb) (h : st.long = false) : runM (n + 1) st (rest ++ [j]) = runM n (writeM j st rest).1 (writeM j st rest).2 := by
  rw [runM, if_neg (by rw [h]; simp)]
  simp

mutual
/-- All breaks are indented within bounds. -/
def indD : Jb → Bool
  | .text _ => true
  | .line _ i _ => decide (0 ≤ i ∧ i ≤ 1000000)
  | .hard i => decide (0 ≤ i ∧ i ≤ 1000000)
  | .many ks _ => indDL ks
def indDL : List Jb → Bool
  | [] => true
  | x :: xs => indD x && indDL xs
end
theorem indJ_of (j : Jb) (h : indD j = true) : indJ j = true := by
  cases j <;> rw [indD] at h <;> rw [indJ] <;> exact h
theorem indDL_append (a b : List Jb) : indDL (a ++ b) = (indDL a && indDL b) := by
  induction a with
  | nil => rw [indDL]; rfl
  | cons x xs ih => rw [List.cons_append, indDL, indDL, ih, Bool.and_assoc]
theorem indDL_rev (a : List Jb) : indDL a.reverse = indDL a := by
  induction a with
  | nil => rfl
  | cons x xs ih => rw [List.reverse_cons, indDL_append, ih, indDL, indDL, indDL, Bool.and_true, Bool.and_comm]
theorem cntJL_rev (js : List Jb) : cntJL js.reverse = cntJL js := by
  induction js with
  | nil => rfl
  | cons j js ih => rw [List.reverse_cons, cntJL_append, ih, cntJL, cntJL, cntJL]; omega
mutual
theorem flatd_all : ∀ j, cntJ (flatd j) = cntJ j ∧ flJ (flatd j) = flJ j ∧ indD (flatd j) = indD j
  | .text s => by rw [flatd]; exact ⟨rfl, rfl, rfl⟩
  | .line s i f => by rw [flatd, cntJ, cntJ, flJ, flJ, indD, indD]; exact ⟨rfl, rfl, rfl⟩
  | .hard i => by rw [flatd]; exact ⟨rfl, rfl, rfl⟩
  | .many ks g => by
    obtain ⟨h1, h2, h3⟩ := flatdL_all ks
    rw [flatd, cntJ, cntJ, flJ, flJ, indD, indD, h1, h2, h3]
    exact ⟨rfl, rfl, rfl⟩
theorem flatdL_all : ∀ js, cntJL (flatdL js) = cntJL js ∧ flJL (flatdL js) = flJL js ∧ indDL (flatdL js) = indDL js
  | [] => by rw [flatdL]; exact ⟨rfl, rfl, rfl⟩
  | j :: js => by
    obtain ⟨h1, h2, h3⟩ := flatd_all j
    obtain ⟨h4, h5, h6⟩ := flatdL_all js
    rw [flatdL, cntJL, cntJL, flJL, flJL, indDL, indDL, h1, h2, h3, h4, h5, h6]
    exact ⟨rfl, rfl, rfl⟩
end
theorem kidsM_all (ks : List Jb) (g : Bool) (st : Wst) (rest : List Jb) : cntJL (kidsM ks g st rest) = cntJL ks ∧ flJL (kidsM ks g st rest) = flJL ks ∧ indDL (kidsM ks g st rest) = indDL ks := by
  unfold kidsM
  split
  · exact flatdL_all ks
  · exact ⟨rfl, rfl, rfl⟩

/-- What holds between two steps. -/
structure RunB (st : Wst) (js : List Jb) : Prop where
  out : st.long = false → st.out.length ≤ 65536 ∧ st.col ≤ st.out.length
  fl : flJL js ≤ 1000000
  cnt : st.brk + cntJL js ≤ 1000000
  ind : indDL js = true

theorem putM_out (s : List UInt8) (st : Wst) (h : st.col ≤ st.out.length) : (putM s st).brk = st.brk ∧ (putM s st).wid = st.wid ∧ ((putM s st).long = false → (putM s st).out.length ≤ 65536 ∧ (putM s st).col ≤ (putM s st).out.length) := by
  unfold putM
  split
  · rename_i h2
    refine ⟨rfl, rfl, fun _ => ?_⟩
    simp only [List.length_append]
    omega
  · exact ⟨rfl, rfl, fun h => by simp at h⟩
theorem wrapM_out (i : Nat) (st : Wst) : (wrapM i st).brk = st.brk ∧ (wrapM i st).wid = st.wid ∧ ((wrapM i st).long = false → (wrapM i st).out.length ≤ 65536 ∧ (wrapM i st).col ≤ (wrapM i st).out.length) := by
  unfold wrapM
  split
  · rename_i h2
    refine ⟨rfl, rfl, fun _ => ?_⟩
    simp only [List.length_append, List.length_cons, List.length_replicate]
    omega
  · exact ⟨rfl, rfl, fun h => by simp at h⟩
theorem manyM_out (ks : List Jb) (g : Bool) (st : Wst) (rest : List Jb) : (manyM ks g st rest).brk ≤ st.brk + 1 ∧ (manyM ks g st rest).wid = st.wid ∧ (manyM ks g st rest).out = st.out ∧ (manyM ks g st rest).col = st.col ∧ (manyM ks g st rest).long = st.long := by
  unfold manyM
  split
  · exact ⟨Nat.le_refl _, rfl, rfl, rfl, rfl⟩
  · exact ⟨Nat.le_succ _, rfl, rfl, rfl, rfl⟩

theorem RunB.step {st : Wst} {rest : List Jb} {j : Jb} (h : RunB st (rest ++ [j])) (hl : st.long = false) : RunB (writeM j st rest).1 (writeM j st rest).2 ∧ (writeM j st rest).1.wid = st.wid ∧ cntJL (writeM j st rest).2 + 1 = cntJL (rest ++ [j]) := by
  obtain ⟨h1, h2, h3, h4⟩ := h
  obtain ⟨h5, h6⟩ := h1 hl
  rw [flJL_append, flJL, flJL] at h2
  rw [cntJL_append, cntJL, cntJL] at h3 ⊢
  rw [indDL_append, Bool.and_eq_true] at h4
  have hc := cntJ_pos j
  cases j with
  | text s =>
    rw [writeM]
    rw [cntJ] at h3 ⊢
    obtain ⟨g1, g2, g3⟩ := putM_out s.data.toList st h6
    exact ⟨⟨g3, by show flJL rest ≤ _; omega, by show (putM s.data.toList st).brk + cntJL rest ≤ _; rw [g1]; omega, h4.1⟩, g2, rfl⟩
  | line s i f =>
    rw [writeM]
    rw [cntJ] at h3 ⊢
    cases f with
    | true =>
      obtain ⟨g1, g2, g3⟩ := putM_out s.data.toList st h6
      exact ⟨⟨g3, by show flJL rest ≤ _; omega, by show (putM s.data.toList st).brk + cntJL rest ≤ _; rw [g1]; omega, h4.1⟩, g2, rfl⟩
    | false =>
      obtain ⟨g1, g2, g3⟩ := wrapM_out i.toNat st
      exact ⟨⟨g3, by show flJL rest ≤ _; omega, by show (wrapM i.toNat st).brk + cntJL rest ≤ _; rw [g1]; omega, h4.1⟩, g2, rfl⟩
  | hard i =>
    rw [writeM]
    rw [cntJ] at h3 ⊢
    obtain ⟨g1, g2, g3⟩ := wrapM_out i.toNat st
    exact ⟨⟨g3, by show flJL rest ≤ _; omega, by show (wrapM i.toNat st).brk + cntJL rest ≤ _; rw [g1]; omega, h4.1⟩, g2, rfl⟩
  | many ks g =>
    rw [writeM]
    rw [cntJ] at h3 ⊢
    obtain ⟨g1, g2, g3, g4, g5⟩ := manyM_out ks g st rest
    obtain ⟨k1, k2, k3⟩ := kidsM_all ks g st rest
    have h7 := h4.2
    rw [indDL, indD, indDL, Bool.and_true] at h7
    rw [flJ] at h2
    refine ⟨⟨fun _ => ?_, ?_, ?_, ?_⟩, g2, ?_⟩
    · rw [g3, g4]; exact ⟨h5, h6⟩
    · rw [flJL_append, flJL_rev, k2]; omega
    · show (manyM ks g st rest).brk + cntJL (rest ++ (kidsM ks g st rest).reverse) ≤ _; rw [cntJL_append, cntJL_rev, k1]; omega
    · rw [indDL_append, indDL_rev, k3, h4.1, h7]; rfl
    · rw [cntJL_append, cntJL_rev, k1]; omega

mutual
/-- A document's job is as great as the document. -/
theorem jobOf_all : ∀ (d : Dc) (lev : Nat) (i : Int), rtB lev d = true → 0 ≤ i → i + 1000 * (lev : Int) ≤ 1000000 → wellB d = true ∧ dep d ≤ lev ∧ cntJ (jobOf d i) ≤ cnt d ∧ flJ (jobOf d i) ≤ vol d ∧ indD (jobOf d i) = true
  | .mk k t n ks, 0, i, h, _, _ => by rw [rtB] at h; cases h
  | .mk k t n ks, lev + 1, i, h, hi, hl => by
    rw [rtB, Bool.and_eq_true] at h
    have hk4 : k = 4 → 0 ≤ n ∧ n ≤ 1000 := fun e => by
      subst e
      have h1 := h.1
      unfold okK at h1
      simp at h1
      exact ⟨h1.1.2, h1.2⟩
    have hj : ∀ i', 0 ≤ i' → i' + 1000 * (lev : Int) ≤ 1000000 → wellL ks = true ∧ depL ks ≤ lev ∧ cntJL (jobsOf ks i') ≤ cntL ks ∧ flJL (jobsOf ks i') ≤ volL ks ∧ indDL (jobsOf ks i') = true := fun i' h1 h2 => jobsOf_all ks lev i' h.2 h1 h2
    obtain ⟨w1, w2, _⟩ := hj i hi (by push_cast at hl; omega)
    refine ⟨?_, by rw [dep]; omega, ?_⟩
    · rw [wellB, w1, Bool.true_and]
      by_cases h4 : k = 4
      · obtain ⟨h5, h6⟩ := hk4 h4
        simp [h5, h6]
      · simp [h4]
    · rw [jobOf]
      push_cast at hl
      split
      · rw [cntJ, flJ, cnt, vol, indD]; exact ⟨by omega, by omega, rfl⟩
      · split
        · rw [cntJ, flJ, cnt, vol, indD]; exact ⟨by omega, by omega, by simp; omega⟩
        · split
          · rw [cntJ, flJ, cnt, vol, indD]; exact ⟨by omega, by omega, by simp; omega⟩
          · rw [cntJ, flJ, cnt, vol, indD]
            obtain ⟨_, _, w3, w4, w5⟩ := hj (if k = 4 then i + n else i) (by split <;> (try have := hk4 ‹_›) <;> omega) (by split <;> (try have := hk4 ‹_›) <;> omega)
            exact ⟨by omega, by omega, w5⟩
theorem jobsOf_all : ∀ (ks : List Dc) (lev : Nat) (i : Int), ks.all (rtB lev) = true → 0 ≤ i → i + 1000 * (lev : Int) ≤ 1000000 → wellL ks = true ∧ depL ks ≤ lev ∧ cntJL (jobsOf ks i) ≤ cntL ks ∧ flJL (jobsOf ks i) ≤ volL ks ∧ indDL (jobsOf ks i) = true
  | [], lev, i, _, _, _ => by rw [wellL, depL, jobsOf, cntJL, flJL, indDL]; exact ⟨rfl, Nat.zero_le _, Nat.zero_le _, Nat.zero_le _, rfl⟩
  | x :: xs, lev, i, h, hi, hl => by
    rw [List.all_cons, Bool.and_eq_true] at h
    obtain ⟨a1, a2, a3, a4, a5⟩ := jobOf_all x lev i h.1 hi hl
    obtain ⟨b1, b2, b3, b4, b5⟩ := jobsOf_all xs lev i h.2 hi hl
    rw [wellL, depL, jobsOf, cntJL, flJL, indDL, cntL, volL, a1, b1, a5, b5]
    exact ⟨rfl, by omega, by omega, by omega, rfl⟩
end
end Go.Proofs.Ytcmhlfnmjpmjhaa
