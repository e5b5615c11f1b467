/- Words as data, and one contract for next. -/
import Derived.Test.YtfngkdcjifdliaaNxSet
import Derived.Test.YtfngkdcjifdliaaNxText
import Derived.Test.YtfngkdcjifdliaaNxWord
import Derived.Test.YtfngkdcjifdliaaNxDot
set_option linter.unusedVariables false
set_option linter.unusedSimpArgs false
set_option linter.unnecessarySimpa false
set_option linter.deprecated false
namespace Go.Proofs.Ytfngkdcjifdliaa
open Go.RowKit

/-- Two lists, part by part. -/
inductive All2 {α β : Type} (R : α → β → Prop) : List α → List β → Prop where
  | nil : All2 R [] []
  | cons {a : α} {b : β} {l : List α} {m : List β} (h : R a b) (t : All2 R l m) : All2 R (a :: l) (b :: m)
/-- What a word of a text is. -/
inductive Tk where
  | set (l : List (Nat × Nat))
  | txt (bs : List UInt8)
  | great (c : UInt8) (n : Nat)
  | small (c : UInt8) (n : Nat)
  | dot
/-- A word stands at a place of a text, and ends at another. -/
def TkAt (text : ByteArray) (p : Nat) (t : Tk) (e : Nat) : Prop :=
  p < e ∧ e ≤ text.size ∧ match t with
  | .set l => (∀ r ∈ l, okR r) ∧ e = p + (l.flatMap itT).length + 2 ∧ ∃ rest, text.data.toList.drop p = 91 :: (l.flatMap itT ++ 93 :: rest)
  | .txt bs => bs.length ≤ (qBytes bs).length ∧ e = p + (qBytes bs).length + 2 ∧ ∃ rest, text.data.toList.drop p = 34 :: (qBytes bs ++ 34 :: rest)
  | .great c n => greatI (c.toNat : Int) = true ∧ e = p + n ∧ n ≤ 32 ∧ ∃ rest, text.data.toList.drop p = c :: rest ∧ runLen (c :: rest) = n
  | .small c n => greatI (c.toNat : Int) = false ∧ smallI (c.toNat : Int) = true ∧ e = p + n ∧ n ≤ 32 ∧ ∃ rest, text.data.toList.drop p = c :: rest ∧ runLen (c :: rest) = n
  | .dot => e = p + 1 ∧ ∃ rest, text.data.toList.drop p = 46 :: rest
/-- Words, one behind the other, with blanks between them. -/
def LexH (text : ByteArray) : Nat → List Tk → Prop
  | p, [] => p = text.size
  | p, t :: r => ∃ e k, TkAt text p t e ∧ text.data.toList.drop e = List.replicate k 32 ++ text.data.toList.drop (e + k) ∧ e + k ≤ text.size ∧ LexH text (e + k) r
/-- A word says what it says. -/
def MT (B : Nat) (W : World) : Tk → Wd → Prop
  | .set l, x => x.kind = 5 ∧ x.set = setOf l zS
  | .txt bs, x => x.kind = 4 ∧ W.ownsRow B 5 1 (.slice x.ba x.bn x.bc) bs.length (Lib.byteCells bs)
  | _, _ => True
theorem MT.keep {B : Nat} {P : Nat → TypeId → Prop} {W W' : World} {t : Tk} {x : Wd} (h : MT B W t x) (hw : Wrote P W W') (hp : ∀ g, ¬ P g 5) : MT B W' t x := by
  cases t with
  | set l => exact h
  | txt bs => exact ⟨h.1, own_wrote h.2 hw hp⟩
  | _ => trivial
theorem scp5 {B sb : Nat} (g : Nat) : ¬ ScP B sb g 5 := by rintro (⟨_, h⟩ | ⟨h, _⟩) <;> exact absurd h (by decide)
theorem MT.all {B : Nat} {P : Nat → TypeId → Prop} {W W' : World} {l : List Tk} {ws : List Wd} (h : All2 (MT B W) l ws) (hw : Wrote P W W') (hp : ∀ g, ¬ P g 5) : All2 (MT B W') l ws := by
  induction h with
  | nil => exact .nil
  | cons h1 _ ih => exact .cons (h1.keep hw hp) ih
theorem forall2_snoc {α β : Type} {R : α → β → Prop} {l : List α} {m : List β} {a : α} {b : β} (h : All2 R l m) (h2 : R a b) : All2 R (l ++ [a]) (m ++ [b]) := by
  induction h with
  | nil => exact .cons h2 .nil
  | cons h1 _ ih => exact .cons h1 ih
theorem forall2_len {α β : Type} {R : α → β → Prop} {l : List α} {m : List β} (h : All2 R l m) : l.length = m.length := by
  induction h with
  | nil => rfl
  | cons h1 _ ih => simp [ih]
/-- What next answers. -/
def TkP (B sb : Nat) (text : ByteArray) (e : Nat) (ws : List Wd) (t : Tk) (w : World) (r : Ending) (w' : World) : Prop := r = .returned (.agg #[.int .i64 0, .int .i64 0]) ∧ ∃ x v', Hid (ScW B sb text (e : Int) 1 0 (ws ++ [x]) v' w' ∧ Wrote (ScP B sb) w w' ∧ MT B w' t x)
theorem next_tk (B sb : Nat) (text : ByteArray) (p e : Nat) (t : Tk) (ws : List Wd) (v : Value) (w : World) (h : ScW B sb text (p : Int) 1 0 ws v w) (hB : B ≤ w.heap.size) (ht : TkAt text p t e) (hs : text.size ≤ 65536) (hw : ws.length ≤ 100000) :
    Calls Try.prog 10 #[.pointer (some ⟨sb, 0, none⟩)] w (TkP B sb text e ws t w) := by
  obtain ⟨_, _, ht⟩ := ht
  have htop : (0 : Int) ≤ 0 ∧ (0 : Int) ≤ p := ⟨by omega, by omega⟩
  cases t with
  | set l =>
    obtain ⟨hl, he, rest, hd⟩ := ht
    refine (next_set B sb text p l rest 1 0 ws v w h hB hl hd hs htop hw e he).mono ?_
    rintro r w' ⟨hr, v', hp⟩
    exact ⟨hr, _, v', hide ⟨hp.out.1, hp.out.2, rfl, rfl⟩⟩
  | txt bs =>
    obtain ⟨hbl, he, rest, hd⟩ := ht
    refine (next_text B sb text p bs rest 1 0 ws v w h hB hd hbl hs htop hw e he).mono ?_
    rintro r w' ⟨a, cap, ho, hr, v', hp⟩
    exact ⟨hr, _, v', hide ⟨hp.out.1, hp.out.2, rfl, own_base ho.out hB⟩⟩
  | great c n =>
    obtain ⟨hg, he, hn, rest, hd, hr⟩ := ht
    refine (next_great B sb text p c rest 1 0 ws v w h hB hd hg hs htop hw n e hr hn he).mono ?_
    rintro r w' ⟨hr, v', hp⟩
    exact ⟨hr, _, v', hide ⟨hp.out.1, hp.out.2, trivial⟩⟩
  | small c n =>
    obtain ⟨hg, hsm, he, hn, rest, hd, hr⟩ := ht
    refine (next_small B sb text p c rest 1 0 ws v w h hB hd hg hsm hs htop hw n e hr hn he).mono ?_
    rintro r w' ⟨hr, v', hp⟩
    exact ⟨hr, _, v', hide ⟨hp.out.1, hp.out.2, trivial⟩⟩
  | dot =>
    obtain ⟨he, rest, hd⟩ := ht
    subst he
    refine (next_dot B sb text p rest 1 0 ws v w h hB hd hs htop hw).mono ?_
    rintro r w' ⟨hr, v', hp⟩
    exact ⟨hr, _, v', hide ⟨hp.out.1, hp.out.2, trivial⟩⟩
/-- Where a word stands, no blank stands. -/
theorem LexH.first {text : ByteArray} {p : Nat} {l : List Tk} (h : LexH text p l) : ∀ c r, text.data.toList.drop p = c :: r → c ≠ 10 ∧ c ≠ 32 ∧ c ≠ 9 ∧ c ≠ 13 ∧ c ≠ 35 := by
  intro c r hd
  have key : ∀ x : UInt8, (c = x → False) → c ≠ x := fun _ h => h
  have big : ∀ c : UInt8, (greatI (c.toNat : Int) = true ∨ smallI (c.toNat : Int) = true) → c ≠ 10 ∧ c ≠ 32 ∧ c ≠ 9 ∧ c ≠ 13 ∧ c ≠ 35 := by
    intro c h
    refine ⟨?_, ?_, ?_, ?_, ?_⟩ <;> (rintro rfl; revert h; decide)
  cases l with
  | nil =>
    have : p = text.size := h
    subst this
    have := congrArg List.length hd
    rw [List.length_drop, size_len text] at this
    simp at this
  | cons t l =>
    obtain ⟨e, k, ⟨_, _, ht⟩, _⟩ := h
    cases t with
    | set l => obtain ⟨_, _, rest, h2⟩ := ht; rw [h2] at hd; injection hd with hd _; subst hd; decide
    | txt bs => obtain ⟨_, _, rest, h2⟩ := ht; rw [h2] at hd; injection hd with hd _; subst hd; decide
    | great c' n => obtain ⟨hg, _, _, rest, h2, _⟩ := ht; rw [h2] at hd; injection hd with hd _; subst hd; exact big _ (Or.inl hg)
    | small c' n => obtain ⟨_, hg, _, _, rest, h2, _⟩ := ht; rw [h2] at hd; injection hd with hd _; subst hd; exact big _ (Or.inr hg)
    | dot => obtain ⟨_, rest, h2⟩ := ht; rw [h2] at hd; injection hd with hd _; subst hd; decide
theorem LexH.le {text : ByteArray} {p : Nat} {l : List Tk} (h : LexH text p l) : p ≤ text.size ∧ (l ≠ [] → p < text.size) := by
  cases l with
  | nil => exact ⟨Nat.le_of_eq h, fun h => absurd rfl h⟩
  | cons t l =>
    obtain ⟨e, k, ⟨h1, h2, _⟩, _⟩ := h
    exact ⟨by omega, fun _ => by omega⟩
end Go.Proofs.Ytfngkdcjifdliaa
