/- Plain functions on bytes: how a text is put into quotes. -/
import Derived.Test.YtfndldfnlncabaaPlain
namespace Go.Proofs.Ytfndldfnlncabaa
set_option linter.unusedVariables false
set_option linter.unusedSimpArgs false
set_option linter.unnecessarySimpa false
set_option linter.deprecated false

/-- The hexadecimal digit of a number below 16. -/
def hexD (n : Nat) : UInt8 := if n < 10 then UInt8.ofNat (48 + n) else UInt8.ofNat (87 + n)
/-- How a byte is written in quotes. -/
def qByte (c : UInt8) : List UInt8 :=
  if c = 34 then [92, 34] else if c = 92 then [92, 92] else if c = 10 then [92, 110] else if c = 9 then [92, 116] else if c = 13 then [92, 114]
  else if c < 32 ∨ 126 < c then [92, 120, hexD (c.toNat / 16), hexD (c.toNat % 16)] else [c]
def qBytes (l : List UInt8) : List UInt8 := l.flatMap qByte
def quoteL (l : List UInt8) : List UInt8 := 34 :: qBytes l ++ [34]

theorem qByte_len (c : UInt8) : (qByte c).length ≤ 4 := by
  unfold qByte
  repeat' split
  all_goals simp
theorem qBytes_len (l : List UInt8) : (qBytes l).length ≤ 4 * l.length := by
  induction l with
  | nil => simp [qBytes]
  | cons a l ih =>
    have := qByte_len a
    simp only [qBytes, List.flatMap_cons, List.length_append, List.length_cons] at ih ⊢
    omega
theorem qBytes_take (l : List UInt8) (k : Nat) (h : k < l.length) : qBytes (l.take (k + 1)) = qBytes (l.take k) ++ qByte l[k] := by
  unfold qBytes
  rw [List.take_succ_eq_append_getElem h, List.flatMap_append]
  simp only [List.flatMap_cons, List.flatMap_nil, List.append_nil]
end Go.Proofs.Ytfndldfnlncabaa
