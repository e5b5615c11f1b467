/- Plain functions on terms: how one is written, as long as there is room; how long that may be. -/
import Derived.Test.YtfndldfnlncabaaQPlain
namespace Go.Proofs.Ytfndldfnlncabaa
set_option linter.unusedVariables false
set_option linter.unusedSimpArgs false
set_option linter.unnecessarySimpa false
set_option linter.deprecated false

mutual
/-- A term written behind what is written already. -/
def wrT : Tm → List UInt8 → List UInt8
  | .mk k c t ks, acc =>
    if k = 1 then (if ks.length = 0 then acc ++ c.data.toList else wrL true ks (acc ++ c.data.toList ++ [40]) ++ [41])
    else if k = 2 then acc ++ quoteL t
    else if k = 3 then wrL true ks (acc ++ [91]) ++ [93]
    else if k = 4 then acc ++ [45]
    else if k = 5 then wrH ks (acc ++ [63])
    else acc
def wrL : Bool → List Tm → List UInt8 → List UInt8
  | _, [], acc => acc
  | first, x :: xs, acc => wrL false xs (if (if first then acc else acc ++ [44]).length ≤ 65536 then wrT x (if first then acc else acc ++ [44]) else (if first then acc else acc ++ [44]))
def wrH : List Tm → List UInt8 → List UInt8
  | [], acc => acc
  | x :: _, acc => wrT x acc
end

mutual
/-- A bound of a term's text. -/
def vol : Tm → Nat
  | .mk _ c t ks => c.size + 4 * t.length + 8 + volL ks
def volL : List Tm → Nat
  | [] => 0
  | x :: xs => 1 + vol x + volL xs
end

mutual
theorem wrT_len : ∀ (T : Tm) (acc : List UInt8), (wrT T acc).length ≤ acc.length + vol T
  | .mk k c t ks, acc => by
    have hq : (quoteL t).length ≤ 4 * t.length + 2 := by
      have := qBytes_len t
      simp [quoteL]
      omega
    have hc : c.data.toList.length = c.size := by simp
    have h1 := wrL_len true ks (acc ++ c.data.toList ++ [40])
    have h3 := wrL_len true ks (acc ++ [91])
    have h5 := wrH_len ks (acc ++ [63])
    rw [wrT, vol]
    simp only [List.length_append, List.length_cons, List.length_nil] at h1 h3 h5
    repeat' split
    all_goals ((try simp only [List.length_append, List.length_cons, List.length_nil]); omega)
theorem wrL_len : ∀ (first : Bool) (ks : List Tm) (acc : List UInt8), (wrL first ks acc).length ≤ acc.length + volL ks
  | _, [], acc => by rw [wrL, volL]; omega
  | first, x :: xs, acc => by
    rw [wrL, volL]
    have h0 : (if first then acc else acc ++ [44]).length ≤ acc.length + 1 := by split <;> simp
    revert h0
    generalize (if first then acc else acc ++ [44]) = a1
    intro h0
    have h1 := wrT_len x a1
    have h3 : (if a1.length ≤ 65536 then wrT x a1 else a1).length ≤ acc.length + 1 + vol x := by
      split <;> omega
    have h2 := wrL_len false xs (if a1.length ≤ 65536 then wrT x a1 else a1)
    omega
theorem wrH_len : ∀ (ks : List Tm) (acc : List UInt8), (wrH ks acc).length ≤ acc.length + volL ks
  | [], acc => by rw [wrH, volL]; omega
  | x :: xs, acc => by
    rw [wrH, volL]
    have := wrT_len x acc
    omega
end
end Go.Proofs.Ytfndldfnlncabaa
