/- Plain functions on bytes: how a text in quotes is read. -/
import Derived.Test.YtfndldfnlncabaaQPlain
namespace Go.Proofs.Ytfndldfnlncabaa
set_option linter.unusedVariables false
set_option linter.unusedSimpArgs false
set_option linter.unnecessarySimpa false
set_option linter.deprecated false

/-- A hexadecimal digit's number; -1: it is none. -/
def valI (c : Int) : Int := if 48 ≤ c ∧ c ≤ 57 then c - 48 else if 97 ≤ c ∧ c ≤ 102 then c - 87 else if 65 ≤ c ∧ c ≤ 70 then c - 55 else -1

/-- The sign that begins with a backslash: its byte, and how long it is (0: none). -/
def escL : List UInt8 → UInt8 × Nat
  | _ :: b :: r =>
    if b = 34 ∨ b = 92 then (b, 2) else if b = 110 then (10, 2) else if b = 116 then (9, 2) else if b = 114 then (13, 2)
    else if b = 120 then (match r with | x :: y :: _ => if 0 ≤ valI x.toNat ∧ 0 ≤ valI y.toNat then (UInt8.ofNat (16 * valI x.toNat + valI y.toNat).toNat, 4) else (0, 0) | _ => (0, 0))
    else (0, 0)
  | _ => (0, 0)

/-- What reading a text in quotes comes to: what it says and what is left; or how much is left where it fails, and the error; or it is open. -/
inductive QR where
  | ok (bs rest : List UInt8)
  | bad (left : Nat) (code : Int)
  | opened

/-- Behind the opening quote, what has been read so far in acc; the first argument is how many rounds there may be. -/
def unqL : Nat → List UInt8 → List UInt8 → QR
  | 0, _, _ => .opened
  | _ + 1, [], _ => .opened
  | n + 1, c :: r, acc =>
    if c = 34 then .ok acc r
    else if c = 92 then (if (escL (c :: r)).2 = 0 then .bad (r.length + 1) 12 else unqL n ((c :: r).drop (escL (c :: r)).2) (acc ++ [(escL (c :: r)).1]))
    else if c < 32 ∨ 126 < c then .bad (r.length + 1) 11
    else unqL n r (acc ++ [c])

theorem valI_le (c : Int) : -1 ≤ valI c ∧ valI c ≤ 15 := by
  unfold valI
  repeat' split
  all_goals omega
theorem escL_len (l : List UInt8) : (escL l).2 ≤ l.length := by
  unfold escL
  repeat' split
  all_goals simp
end Go.Proofs.Ytfndldfnlncabaa
