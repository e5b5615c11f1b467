/- Terms as data; plain functions on bytes: what letters, names and runs of letters are. -/
set_option linter.unusedVariables false
set_option linter.unusedSimpArgs false
set_option linter.unnecessarySimpa false
set_option linter.deprecated false
namespace Go.Proofs.Ytfndldfnlncabaa

/-- A term, as data. -/
inductive Tm where
  | mk (kind : Int) (cons : ByteArray) (text : List UInt8) (kids : List Tm)

def Tm.kind : Tm → Int | .mk k _ _ _ => k
def Tm.cons : Tm → ByteArray | .mk _ c _ _ => c
def Tm.text : Tm → List UInt8 | .mk _ _ t _ => t
def Tm.kids : Tm → List Tm | .mk _ _ _ ks => ks

theorem Tm.induct {P : Tm → Prop} (h : ∀ k c t ks, (∀ x ∈ ks, P x) → P (.mk k c t ks)) : ∀ t, P t
  | .mk k c t ks => h k c t ks fun x _ => Tm.induct h x

def greatB (c : Nat) : Bool := decide (65 ≤ c) && decide (c ≤ 90)
def smallB (c : Nat) : Bool := decide (97 ≤ c) && decide (c ≤ 122)
def digitB (c : Nat) : Bool := decide (48 ≤ c) && decide (c ≤ 57)
def alnumB (c : UInt8) : Bool := greatB c.toNat || smallB c.toNat || digitB c.toNat

/-- How long the letters and digits are with which a list begins. -/
def runLen (l : List UInt8) : Nat := (l.takeWhile alnumB).length

def isNameL (l : List UInt8) : Bool := !l.isEmpty && decide (l.length ≤ 32) && greatB (l.headD 0).toNat && l.all alnumB

theorem runLen_le (l : List UInt8) : runLen l ≤ l.length := by
  unfold runLen
  exact (List.takeWhile_sublist alnumB).length_le

theorem runLen_at (l : List UInt8) (p : Nat) (hp : p < l.length) (hall : ∀ i (h : i < l.length), i < p → alnumB l[i] = true) (hn : alnumB l[p] = false) : runLen l = p := by
  induction l generalizing p with
  | nil => simp at hp
  | cons a l ih =>
    cases p with
    | zero => simp at hn; simp [runLen, hn]
    | succ p =>
      have h0 : alnumB a = true := hall 0 (by simp) (by omega)
      have := ih p (by simpa using hp) (fun i h hi => hall (i + 1) (by simpa using h) (by omega)) hn
      simp only [runLen, List.takeWhile_cons, h0, if_true, List.length_cons] at this ⊢
      omega

theorem runLen_all (l : List UInt8) (hall : ∀ i (h : i < l.length), alnumB l[i] = true) : runLen l = l.length := by
  induction l with
  | nil => rfl
  | cons a l ih =>
    have h0 : alnumB a = true := hall 0 (by simp)
    have := ih (fun i h => hall (i + 1) (by simpa using h))
    simp only [runLen, List.takeWhile_cons, h0, if_true, List.length_cons] at this ⊢
    omega

theorem runLen_eq_length (l : List UInt8) : runLen l = l.length ↔ l.all alnumB = true := by
  induction l with
  | nil => simp [runLen]
  | cons a l ih =>
    simp only [runLen, List.takeWhile_cons, List.all_cons, List.length_cons] at ih ⊢
    cases h : alnumB a <;> simp_all

end Go.Proofs.Ytfndldfnlncabaa
