/- The reader's method term, all ways joined. -/
import Derived.Test.YtfndldfnlncabaaTermB
import Derived.Test.YtfndldfnlncabaaTermC
import Derived.Test.YtfndldfnlncabaaTermE
namespace Go.Proofs.Ytfndldfnlncabaa
set_option linter.unnecessarySimpa false
set_option linter.deprecated false
open Go.RowKit
set_option linter.unusedVariables false
set_option linter.unusedSimpArgs false

theorem sign_cases {c : UInt8} (h : signB c = true) : c = 34 ∨ c = 91 ∨ c = 45 ∨ c = 63 ∨ greatB c.toNat = true := by
  simpa [signB, or_assoc] using h
theorem great_not {c : UInt8} (h : greatB c.toNat = true) : c ≠ 34 ∧ c ≠ 91 ∧ c ≠ 45 ∧ c ≠ 63 := by
  refine ⟨?_, ?_, ?_, ?_⟩ <;> (rintro rfl; revert h; decide)

theorem term_zero (s : ByteArray) (hs : s.size ≤ 65536) : TermOk s 0 := by
  intro g p w hp hr
  rw [termL]
  cases hP : peekL (s.data.toList.drop p) with
  | bad m c => exact term_bad s g p w 0 (by decide) (by decide) hs hp hr m c hP
  | ok c r =>
    cases hS : signB c with
    | false =>
      simp only [hS, if_true]
      exact term_unsign s g p w 0 (by decide) (by decide) hs hp hr r c hS hP
    | true =>
      simp only [hS, Bool.true_eq_false, if_false]
      rcases sign_cases hS with rfl | rfl | rfl | rfl | hg
      · exact term_deep_quote s g p w hs hp hr r hP
      · exact term_deep_open s g p w hs hp hr r hP
      · exact term_deep_dash s g p w hs hp hr r hP
      · exact term_deep_some s g p w hs hp hr r hP
      · exact term_deep_name s g p w hs hp hr r c hg hP

theorem term_succ (s : ByteArray) (hs : s.size ≤ 65536) (n : Nat) (hn : n + 1 ≤ 200) (ih : TermOk s n) : TermOk s (n + 1) := by
  intro g p w hp hr
  rw [termL]
  have hm : ((((n + 1 : Nat) : Int)) == 0) = false := by simp; omega
  have hm1 : (0 : Int) ≤ ((n + 1 : Nat) : Int) := by omega
  have hm2 : ((n + 1 : Nat) : Int) ≤ 200 := by omega
  have hmn : ((n + 1 : Nat) : Int) - 1 = (n : Int) := by omega
  generalize ((n + 1 : Nat) : Int) = m at *
  cases hP : peekL (s.data.toList.drop p) with
  | bad k c => exact term_bad s g p w m hm1 hm2 hs hp hr k c hP
  | ok c r =>
    cases hS : signB c with
    | false =>
      simp only [hS, if_true]
      exact term_unsign s g p w m hm1 hm2 hs hp hr r c hS hP
    | true =>
      simp only [hS, Bool.true_eq_false, if_false]
      rcases sign_cases hS with rfl | rfl | rfl | rfl | hg
      · exact term_quote s g p w m hm hm1 hm2 hs hp hr r _ rfl hP
      · exact term_open s g p w m hm hm1 hm2 hs hp hr r n hmn ih _ rfl hP
      · exact term_dash s g p w m hm hm1 hm2 hs hp hr r hP
      · exact term_some s g p w m hm hm1 hm2 hs hp hr r n hmn ih _ rfl hP
      · obtain ⟨n1, n2, n3, n4⟩ := great_not hg
        simp only [n1, n2, n3, n4, if_false]
        cases hN : nameL r with
        | bad k code => exact term_name_bad s g p w m hm hm1 hm2 hs hp hr r c hg k code hN hP
        | ok nm l =>
          simp only
          cases hK : skipL l with
          | nil => exact term_name_end s g p w m hm hm1 hm2 hs hp hr r c hg nm l hN hK hP
          | cons d r3 =>
            simp only
            by_cases h40 : d = 40
            · subst h40
              simp only [if_true]
              cases hL : listsL (termL n) 41 false r3 with
              | bad k code => exact term_list_bad s g p w m hm hm1 hm2 hs hp hr r c hg nm l hN n hmn ih r3 hK k code hL hP
              | ok ks r4 => exact term_list_ok s g p w m hm hm1 hm2 hs hp hr r c hg nm l hN n hmn ih r3 hK ks r4 hL hP
            · simp only [h40, if_false]
              exact term_name_next s g p w m hm hm1 hm2 hs hp hr r c hg nm l hN d r3 hK h40 hP

/-- The contract of term. -/
theorem term_any (s : ByteArray) (hs : s.size ≤ 65536) : ∀ n, n ≤ 200 → TermOk s n
  | 0, _ => term_zero s hs
  | n + 1, h => term_succ s hs n h (term_any s hs n (by omega))
end Go.Proofs.Ytfndldfnlncabaa
