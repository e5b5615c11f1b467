/- Plain Lean with no program in sight: terms as data, names, quotes, how a term is written and read, how many parts it has. -/
set_option linter.unusedVariables false
set_option linter.unusedSimpArgs false
set_option linter.unnecessarySimpa false
set_option linter.deprecated false

/- Terms as data; plain functions on bytes: what letters, names and runs of letters are. -/
namespace Go.Proofs.Ytalicfpcmcbdbaa

def greatB (c : Nat) : Bool := decide (65 ≤ c) && decide (c ≤ 90)
def smallB (c : Nat) : Bool := decide (97 ≤ c) && decide (c ≤ 122)
def digitB (c : Nat) : Bool := decide (48 ≤ c) && decide (c ≤ 57)
def alnumB (c : UInt8) : Bool := greatB c.toNat || smallB c.toNat || digitB c.toNat

/-- How long the letters and digits are with which a list begins. -/
def runLen (l : List UInt8) : Nat := (l.takeWhile alnumB).length

def isNameL (l : List UInt8) : Bool := !l.isEmpty && decide (l.length ≤ 32) && greatB (l.headD 0).toNat && l.all alnumB

theorem runLen_le (l : List UInt8) : runLen l ≤ l.length := by
  unfold runLen
  exact (List.takeWhile_sublist alnumB).length_le

theorem runLen_at (l : List UInt8) (p : Nat) (hp : p < l.length) (hall : ∀ i (h : i < l.length), i < p → alnumB l[i] = true) (hn : alnumB l[p] = false) : runLen l = p := by
  induction l generalizing p with
  | nil => simp at hp
  | cons a l ih =>
    cases p with
    | zero => simp at hn; simp [runLen, hn]
    | succ p =>
      have h0 : alnumB a = true := hall 0 (by simp) (by omega)
      have := ih p (by simpa using hp) (fun i h hi => hall (i + 1) (by simpa using h) (by omega)) hn
      simp only [runLen, List.takeWhile_cons, h0, if_true, List.length_cons] at this ⊢
      omega

theorem runLen_all (l : List UInt8) (hall : ∀ i (h : i < l.length), alnumB l[i] = true) : runLen l = l.length := by
  induction l with
  | nil => rfl
  | cons a l ih =>
    have h0 : alnumB a = true := hall 0 (by simp)
    have := ih (fun i h => hall (i + 1) (by simpa using h))
    simp only [runLen, List.takeWhile_cons, h0, if_true, List.length_cons] at this ⊢
    omega

theorem runLen_eq_length (l : List UInt8) : runLen l = l.length ↔ l.all alnumB = true := by
  induction l with
  | nil => simp [runLen]
  | cons a l ih =>
    simp only [runLen, List.takeWhile_cons, List.all_cons, List.length_cons] at ih ⊢
    cases h : alnumB a <;> simp_all

end Go.Proofs.Ytalicfpcmcbdbaa

/- Plain functions on bytes: how a text is put into quotes. -/
namespace Go.Proofs.Ytalicfpcmcbdbaa

/-- The hexadecimal digit of a number below 16. -/
def hexD (n : Nat) : UInt8 := if n < 10 then UInt8.ofNat (48 + n) else UInt8.ofNat (87 + n)
/-- How a byte is written in quotes. -/
def qByte (c : UInt8) : List UInt8 :=
  if c = 34 then [92, 34] else if c = 92 then [92, 92] else if c = 10 then [92, 110] else if c = 9 then [92, 116] else if c = 13 then [92, 114]
  else if c < 32 ∨ 126 < c then [92, 120, hexD (c.toNat / 16), hexD (c.toNat % 16)] else [c]
def qBytes (l : List UInt8) : List UInt8 := l.flatMap qByte
def quoteL (l : List UInt8) : List UInt8 := 34 :: qBytes l ++ [34]

theorem qByte_len (c : UInt8) : (qByte c).length ≤ 4 := by
  unfold qByte
  repeat' split
  all_goals simp
theorem qBytes_len (l : List UInt8) : (qBytes l).length ≤ 4 * l.length := by
  induction l with
  | nil => simp [qBytes]
  | cons a l ih =>
    have := qByte_len a
    simp only [qBytes, List.flatMap_cons, List.length_append, List.length_cons] at ih ⊢
    omega
theorem qBytes_take (l : List UInt8) (k : Nat) (h : k < l.length) : qBytes (l.take (k + 1)) = qBytes (l.take k) ++ qByte l[k] := by
  unfold qBytes
  rw [List.take_succ_eq_append_getElem h, List.flatMap_append]
  simp only [List.flatMap_cons, List.flatMap_nil, List.append_nil]
end Go.Proofs.Ytalicfpcmcbdbaa

/- Plain functions on bytes: how a text in quotes is read. -/
namespace Go.Proofs.Ytalicfpcmcbdbaa

/-- A hexadecimal digit's number; -1: it is none. -/
def valI (c : Int) : Int := if 48 ≤ c ∧ c ≤ 57 then c - 48 else if 97 ≤ c ∧ c ≤ 102 then c - 87 else if 65 ≤ c ∧ c ≤ 70 then c - 55 else -1

/-- The sign that begins with a backslash: its byte, and how long it is (0: none). -/
def escL : List UInt8 → UInt8 × Nat
  | _ :: b :: r =>
    if b = 34 ∨ b = 92 then (b, 2) else if b = 110 then (10, 2) else if b = 116 then (9, 2) else if b = 114 then (13, 2)
    else if b = 120 then (match r with | x :: y :: _ => if 0 ≤ valI x.toNat ∧ 0 ≤ valI y.toNat then (UInt8.ofNat (16 * valI x.toNat + valI y.toNat).toNat, 4) else (0, 0) | _ => (0, 0))
    else (0, 0)
  | _ => (0, 0)

/-- What reading a text in quotes comes to: what it says and what is left; or how much is left where it fails, and the error; or it is open. -/
inductive QR where
  | ok (bs rest : List UInt8)
  | bad (left : Nat) (code : Int)
  | opened

/-- Behind the opening quote, what has been read so far in acc; the first argument is how many rounds there may be. -/
def unqL : Nat → List UInt8 → List UInt8 → QR
  | 0, _, _ => .opened
  | _ + 1, [], _ => .opened
  | n + 1, c :: r, acc =>
    if c = 34 then .ok acc r
    else if c = 92 then (if (escL (c :: r)).2 = 0 then .bad (r.length + 1) 12 else unqL n ((c :: r).drop (escL (c :: r)).2) (acc ++ [(escL (c :: r)).1]))
    else if c < 32 ∨ 126 < c then .bad (r.length + 1) 11
    else unqL n r (acc ++ [c])

theorem valI_le (c : Int) : -1 ≤ valI c ∧ valI c ≤ 15 := by
  unfold valI
  repeat' split
  all_goals omega
theorem escL_len (l : List UInt8) : (escL l).2 ≤ l.length := by
  unfold escL
  repeat' split
  all_goals simp
end Go.Proofs.Ytalicfpcmcbdbaa
