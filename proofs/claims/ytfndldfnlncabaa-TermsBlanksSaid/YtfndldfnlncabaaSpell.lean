/- Plain lemmas: a right term's text, with blanks around its signs, is read as the term. -/
import Derived.Test.YtfndldfnlncabaaPlain
import Derived.Test.YtfndldfnlncabaaRight
set_option linter.unusedVariables false
set_option linter.unusedSimpArgs false
set_option linter.unnecessarySimpa false
set_option linter.deprecated false
namespace Go.Proofs.Ytfndldfnlncabaa

/-- Blanks alone. -/
def Bl (l : List UInt8) : Prop := ∀ x ∈ l, blankB x = true
theorem Bl.nil : Bl [] := fun x h => by cases h
theorem Bl.append {a b : List UInt8} (h : Bl a) (k : Bl b) : Bl (a ++ b) := fun x hx => (List.mem_append.1 hx).elim (h x) (k x)
theorem skip_blanks : ∀ (b l : List UInt8), Bl b → skipL (b ++ l) = skipL l
  | [], _, _ => rfl
  | x :: b, l, h => by
    have h1 := h x (List.mem_cons_self ..)
    rw [List.cons_append, skipL, List.dropWhile_cons, h1, if_pos rfl]
    exact skip_blanks b l fun y hy => h y (List.mem_cons_of_mem _ hy)
theorem skip_none {c : UInt8} {r : List UInt8} (h : blankB c = false) : skipL (c :: r) = c :: r := by
  rw [skipL, List.dropWhile_cons, h]; rfl
theorem skip_head : ∀ {l : List UInt8} {c : UInt8} {r : List UInt8}, skipL l = c :: r → blankB c = false
  | [], c, r, h => by cases h
  | x :: l, c, r, h => by
    rw [skipL, List.dropWhile_cons] at h
    cases hx : blankB x with
    | true => rw [hx] at h; exact skip_head (l := l) h
    | false =>
      rw [hx] at h
      injection h with h1 h2
      rw [← h1]; exact hx
theorem skip_skip (l : List UInt8) : skipL (skipL l) = skipL l := by
  cases h : skipL l with
  | nil => rfl
  | cons c r => exact skip_none (skip_head h)
theorem peek_at {b : List UInt8} {c : UInt8} {r : List UInt8} (hb : Bl b) (hc : blankB c = false) : peekL (b ++ c :: r) = .ok c (c :: r) := by
  rw [peekL, skip_blanks _ _ hb, skip_none hc]

/-- What may stand behind a term. -/
def Behind (r : List UInt8) : Prop := ∀ c r', skipL r = c :: r' → c = 44 ∨ c = 41 ∨ c = 93
theorem Behind.nil : Behind [] := fun c r' h => by cases h
theorem Behind.blanks {b r : List UInt8} (hb : Bl b) (h : Behind r) : Behind (b ++ r) := fun c r' e => h c r' (by rw [← skip_blanks b r hb]; exact e)
theorem Behind.sign {c : UInt8} {r : List UInt8} (h : c = 44 ∨ c = 41 ∨ c = 93) : Behind (c :: r) := fun d r' e => by
  rw [skip_none (by rcases h with rfl | rfl | rfl <;> rfl)] at e
  injection e with e1 _
  rw [← e1]; exact h
theorem Behind.head {c : UInt8} {r : List UInt8} (h : Behind (c :: r)) : alnumB c = false := by
  cases hc : blankB c with
  | true =>
    have : c = 32 ∨ c = 9 ∨ c = 10 ∨ c = 13 := by
      simp only [blankB, Bool.or_eq_true, beq_iff_eq] at hc
      rcases hc with ((h | h) | h) | h <;> simp [h]
    rcases this with rfl | rfl | rfl | rfl <;> rfl
  | false =>
    rcases h c r (skip_none hc) with rfl | rfl | rfl <;> rfl

/-! Quotes. -/
theorem valI_hexD : ∀ a, a < 16 → valI ((hexD a).toNat : Int) = a := by decide
theorem escL_hex (x y : UInt8) (r : List UInt8) (hx : 0 ≤ valI x.toNat) (hy : 0 ≤ valI y.toNat) : escL (92 :: 120 :: x :: y :: r) = (UInt8.ofNat (16 * valI x.toNat + valI y.toNat).toNat, 4) := by
  unfold escL
  simp [hx, hy]
theorem unq_quoted : ∀ (t : List UInt8) (n : Nat) (acc rest : List UInt8), t.length < n → unqL n (qBytes t ++ 34 :: rest) acc = .ok (acc ++ t) rest
  | [], n + 1, acc, rest, h => by simp [qBytes, unqL]
  | [], 0, _, _, h => by simp at h
  | c :: t, 0, _, _, h => by simp at h
  | c :: t, n + 1, acc, rest, h => by
    have ih := unq_quoted t n (acc ++ [c]) rest (by simpa using h)
    have e : qBytes (c :: t) ++ 34 :: rest = qByte c ++ (qBytes t ++ 34 :: rest) := by simp [qBytes]
    rw [e]
    generalize hq : qBytes t ++ 34 :: rest = q at ih
    have e2 : acc ++ c :: t = acc ++ [c] ++ t := by simp
    rw [e2]
    unfold qByte
    by_cases h1 : c = 34
    · rw [if_pos h1]; subst h1
      simpa [unqL, escL] using ih
    rw [if_neg h1]
    by_cases h2 : c = 92
    · rw [if_pos h2]; subst h2
      simpa [unqL, escL] using ih
    rw [if_neg h2]
    by_cases h3 : c = 10
    · rw [if_pos h3]; subst h3
      simpa [unqL, escL] using ih
    rw [if_neg h3]
    by_cases h4 : c = 9
    · rw [if_pos h4]; subst h4
      simpa [unqL, escL] using ih
    rw [if_neg h4]
    by_cases h5 : c = 13
    · rw [if_pos h5]; subst h5
      simpa [unqL, escL] using ih
    rw [if_neg h5]
    by_cases h6 : c < 32 ∨ 126 < c
    · rw [if_pos h6]
      have hlt := c.toNat_lt
      have v1 := valI_hexD (c.toNat / 16) (by omega)
      have v2 := valI_hexD (c.toNat % 16) (by omega)
      have hesc := escL_hex (hexD (c.toNat / 16)) (hexD (c.toNat % 16)) q (by omega) (by omega)
      rw [v1, v2] at hesc
      have e3 : UInt8.ofNat (16 * ((c.toNat / 16 : Nat) : Int) + ((c.toNat % 16 : Nat) : Int)).toNat = c := by
        have : (16 * ((c.toNat / 16 : Nat) : Int) + ((c.toNat % 16 : Nat) : Int)).toNat = c.toNat := by omega
        rw [this]; simp
      rw [e3] at hesc
      simp only [List.cons_append, List.nil_append]
      rw [unqL, if_neg (by decide), if_pos rfl, hesc]
      simpa using ih
    · rw [if_neg h6]
      simp only [List.cons_append, List.nil_append]
      rw [unqL, if_neg h1, if_neg h2, if_neg h6]
      exact ih
theorem qBytes_ge (t : List UInt8) : t.length ≤ (qBytes t).length := by
  induction t with
  | nil => simp [qBytes]
  | cons c t ih =>
    have : 1 ≤ (qByte c).length := by
      unfold qByte
      repeat' split
      all_goals simp
    simp only [qBytes, List.flatMap_cons, List.length_append, List.length_cons] at ih ⊢
    omega
theorem quot_quoted (t rest : List UInt8) : quotL (quoteL t ++ rest) = .ok t rest := by
  have := unq_quoted t (quoteL t ++ rest).length [] rest (by
    have := qBytes_ge t
    simp [quoteL]; omega)
  unfold quotL
  have e : (quoteL t ++ rest).drop 1 = qBytes t ++ 34 :: rest := by simp [quoteL]
  rw [e, this]
  simp

/-! Names. -/
theorem run_app (c rest : List UInt8) (hc : c.all alnumB = true) (hr : ∀ d r, rest = d :: r → alnumB d = false) : runLen (c ++ rest) = c.length := by
  unfold runLen
  rw [List.takeWhile_append_of_pos (by simpa using hc), List.length_append]
  cases rest with
  | nil => simp
  | cons d r => simp [hr d r rfl]
theorem name_at {c rest : List UInt8} (hc : isNameL c = true) (hr : ∀ d r, rest = d :: r → alnumB d = false) : nameL (c ++ rest) = .ok c rest := by
  unfold isNameL at hc
  simp only [Bool.and_eq_true, decide_eq_true_eq] at hc
  obtain ⟨⟨⟨h1, h2⟩, h3⟩, h4⟩ := hc
  unfold nameL
  rw [run_app c rest h4 hr, if_pos h2]
  simp

mutual
/-- A text of a term, with so many levels, and blanks around its signs. -/
def Spell : Tm → Nat → List UInt8 → Prop
  | .mk k c t ks, n, l => ∃ m b s, n = m + 1 ∧ l = b ++ s ∧ Bl b ∧
    ((k = 1 ∧ isNameL c.data.toList = true ∧ t = [] ∧ ks = [] ∧ s = c.data.toList) ∨
     (k = 1 ∧ isNameL c.data.toList = true ∧ t = [] ∧ ks ≠ [] ∧ ∃ b2 L, Bl b2 ∧ s = c.data.toList ++ (b2 ++ 40 :: (L ++ [41])) ∧ SpellL ks m L) ∨
     (k = 2 ∧ c = emptyB ∧ ks = [] ∧ s = quoteL t) ∨
     (k = 3 ∧ c = emptyB ∧ t = [] ∧ ks = [] ∧ ∃ b2, Bl b2 ∧ s = 91 :: (b2 ++ [93])) ∨
     (k = 3 ∧ c = emptyB ∧ t = [] ∧ ks ≠ [] ∧ ∃ L, s = 91 :: (L ++ [93]) ∧ SpellL ks m L) ∨
     (k = 4 ∧ c = emptyB ∧ t = [] ∧ ks = [] ∧ s = [45]) ∨
     (k = 5 ∧ c = emptyB ∧ t = [] ∧ ∃ L, s = 63 :: L ∧ SpellH ks m L))
def SpellL : List Tm → Nat → List UInt8 → Prop
  | [], _, _ => False
  | x :: xs, n, l => ∃ l1 b, Bl b ∧ Spell x n l1 ∧ ((xs = [] ∧ l = l1 ++ b) ∨ (xs ≠ [] ∧ ∃ L, l = l1 ++ (b ++ 44 :: L) ∧ SpellL xs n L))
def SpellH : List Tm → Nat → List UInt8 → Prop
  | [], _, _ => False
  | x :: xs, n, l => xs = [] ∧ Spell x n l
end

theorem name_cons {c : List UInt8} (h : isNameL c = true) : ∃ d r, c = d :: r ∧ greatB d.toNat = true := by
  cases c with
  | nil => simp [isNameL] at h
  | cons d r =>
    simp only [isNameL, Bool.and_eq_true] at h
    exact ⟨d, r, rfl, h.1.2⟩

theorem spell_pos : ∀ (T : Tm) (n : Nat) (l : List UInt8), Spell T n l → 0 < l.length
  | .mk k c t ks, n, l, h => by
    rw [Spell] at h
    obtain ⟨m, b, s, rfl, rfl, hb, h⟩ := h
    rw [List.length_append]
    rcases h with ⟨_, hn, _, _, rfl⟩ | ⟨_, hn, _, _, b2, L, _, rfl, _⟩ | ⟨_, _, _, rfl⟩ | ⟨_, _, _, _, b2, _, rfl⟩ | ⟨_, _, _, _, L, rfl, _⟩ | ⟨_, _, _, _, rfl⟩ | ⟨_, _, _, L, rfl, _⟩
    · obtain ⟨d, r, e, _⟩ := name_cons hn
      rw [e]; simp; omega
    · simp; omega
    all_goals (simp [quoteL]; try omega)
theorem spellL_len : ∀ (ks : List Tm) (n : Nat) (l : List UInt8), SpellL ks n l → ks.length ≤ l.length
  | [], _, _, _ => by simp
  | x :: xs, n, l, h => by
    rw [SpellL] at h
    obtain ⟨l1, b, hb, hx, h⟩ := h
    have := spell_pos x n l1 hx
    rcases h with ⟨rfl, rfl⟩ | ⟨_, L, rfl, hL⟩
    · simp; omega
    · have := spellL_len xs n L hL
      simp; omega

theorem great_sign {d : UInt8} (h : greatB d.toNat = true) : d ≠ 34 ∧ d ≠ 91 ∧ d ≠ 45 ∧ d ≠ 63 ∧ blankB d = false ∧ signB d = true := by
  refine ⟨?_, ?_, ?_, ?_, ?_, ?_⟩
  · rintro rfl; revert h; decide
  · rintro rfl; revert h; decide
  · rintro rfl; revert h; decide
  · rintro rfl; revert h; decide
  · cases hb : blankB d with
    | false => rfl
    | true =>
      have : d = 32 ∨ d = 9 ∨ d = 10 ∨ d = 13 := by
        simp only [blankB, Bool.or_eq_true, beq_iff_eq] at hb
        rcases hb with ((h | h) | h) | h <;> simp [h]
      rcases this with rfl | rfl | rfl | rfl <;> (revert h; decide)
  · simp [signB, h]

theorem spell_first : ∀ (T : Tm) (n : Nat) (l : List UInt8), Spell T n l → ∃ b c r, l = b ++ c :: r ∧ Bl b ∧ blankB c = false ∧ c ≠ 93
  | .mk k c t ks, n, l, h => by
    rw [Spell] at h
    obtain ⟨m, b, s, rfl, rfl, hb, h⟩ := h
    rcases h with ⟨_, hn, _, _, rfl⟩ | ⟨_, hn, _, _, b2, L, _, rfl, _⟩ | ⟨_, _, _, rfl⟩ | ⟨_, _, _, _, b2, _, rfl⟩ | ⟨_, _, _, _, L, rfl, _⟩ | ⟨_, _, _, _, rfl⟩ | ⟨_, _, _, L, rfl, _⟩
    · obtain ⟨d, r, e, hd⟩ := name_cons hn
      rw [e]
      exact ⟨b, d, r, rfl, hb, (great_sign hd).2.2.2.2.1, by rintro rfl; revert hd; decide⟩
    · obtain ⟨d, r, e, hd⟩ := name_cons hn
      rw [e]
      exact ⟨b, d, _, rfl, hb, (great_sign hd).2.2.2.2.1, by rintro rfl; revert hd; decide⟩
    · exact ⟨b, 34, _, rfl, hb, rfl, by decide⟩
    · exact ⟨b, 91, _, rfl, hb, rfl, by decide⟩
    · exact ⟨b, 91, _, rfl, hb, rfl, by decide⟩
    · exact ⟨b, 45, _, rfl, hb, rfl, by decide⟩
    · exact ⟨b, 63, _, rfl, hb, rfl, by decide⟩
theorem spellL_first : ∀ (ks : List Tm) (n : Nat) (l : List UInt8), SpellL ks n l → ∃ b c r, l = b ++ c :: r ∧ Bl b ∧ blankB c = false ∧ c ≠ 93
  | [], n, l, h => by rw [SpellL] at h; exact h.elim
  | x :: xs, n, l, h => by
    rw [SpellL] at h
    obtain ⟨l1, b, hb, hx, h⟩ := h
    obtain ⟨b0, c, r, rfl, h1, h2, h3⟩ := spell_first x n l1 hx
    rcases h with ⟨_, rfl⟩ | ⟨_, L, rfl, _⟩
    · exact ⟨b0, c, r ++ b, by simp, h1, h2, h3⟩
    · exact ⟨b0, c, r ++ (b ++ 44 :: L), by simp, h1, h2, h3⟩
theorem peek_skip (l : List UInt8) : peekL (skipL l) = peekL l := by rw [peekL, peekL, skip_skip]
theorem termL_skip (n : Nat) (l : List UInt8) : termL n (skipL l) = termL n l := by
  cases n <;> rw [termL, termL, peek_skip]
theorem listL_skip (n : Nat) (e : UInt8) (m : Nat) (l : List UInt8) (hm : 0 < m) (acc : List Tm) : listL (termL n) e m (skipL l) acc = listL (termL n) e m l acc := by
  cases m with
  | zero => omega
  | succ m => rw [listL, listL, termL_skip]

mutual
theorem spell_reads : ∀ (T : Tm) (n : Nat) (l rest : List UInt8), Spell T n l → Behind rest → ∃ r, termL n (l ++ rest) = .ok T r ∧ skipL r = skipL rest
  | .mk k c t ks, n, l, rest, h, hr => by
    rw [Spell] at h
    obtain ⟨m, b, s, rfl, rfl, hb, h⟩ := h
    rw [List.append_assoc]
    rcases h with ⟨rfl, hn, rfl, rfl, rfl⟩ | ⟨rfl, hn, rfl, hks, b2, L, hb2, rfl, hL⟩ | ⟨rfl, rfl, rfl, rfl⟩ | ⟨rfl, rfl, rfl, rfl, b2, hb2, rfl⟩ | ⟨rfl, rfl, rfl, hks, L, rfl, hL⟩ | ⟨rfl, rfl, rfl, rfl, rfl⟩ | ⟨rfl, rfl, rfl, L, rfl, hL⟩
    · obtain ⟨d, cr, e, hd⟩ := name_cons hn
      obtain ⟨g1, g2, g3, g4, g5, g6⟩ := great_sign hd
      have hname := name_at (rest := rest) hn (fun d' r' e' => (e' ▸ hr : Behind (d' :: r')).head)
      have hc : (⟨c.data.toList.toArray⟩ : ByteArray) = c := by simp
      have hpk : peekL (b ++ (c.data.toList ++ rest)) = .ok d (c.data.toList ++ rest) := by rw [e, List.cons_append]; exact peek_at hb g5
      rw [termL, hpk]
      simp only [g6, g1, g2, g3, g4, if_false, Bool.true_eq_false, hname, hc]
      cases hs : skipL rest with
      | nil => exact ⟨[], rfl, rfl⟩
      | cons d' r' =>
        have hd' : d' ≠ 40 := by
          rcases hr d' r' hs with rfl | rfl | rfl <;> decide
        simp only [hd', if_false]
        exact ⟨d' :: r', rfl, skip_none (skip_head hs)⟩
    · obtain ⟨d, cr, e, hd⟩ := name_cons hn
      obtain ⟨g1, g2, g3, g4, g5, g6⟩ := great_sign hd
      have hc : (⟨c.data.toList.toArray⟩ : ByteArray) = c := by simp
      have e1 : c.data.toList ++ (b2 ++ 40 :: (L ++ [41])) ++ rest = c.data.toList ++ (b2 ++ 40 :: (L ++ 41 :: rest)) := by simp
      have hname := name_at (c := c.data.toList) (rest := b2 ++ 40 :: (L ++ 41 :: rest)) hn (fun d' r' e' => by
        cases b2 with
        | nil => injection e' with e2 _; rw [← e2]; rfl
        | cons x b3 =>
          injection e' with e2 _
          have := hb2 x (List.mem_cons_self ..)
          rw [← e2]
          have h4 : x = 32 ∨ x = 9 ∨ x = 10 ∨ x = 13 := by
            simp only [blankB, Bool.or_eq_true, beq_iff_eq] at this
            rcases this with ((h | h) | h) | h <;> simp [h]
          rcases h4 with rfl | rfl | rfl | rfl <;> rfl)
      have hlist := spellL_reads ks m L hL 41 rest (Or.inl rfl) ((L ++ 41 :: rest).length + 1) [] (by
        have := spellL_len ks m L hL
        simp; omega)
      have hpk : peekL (b ++ (c.data.toList ++ (b2 ++ 40 :: (L ++ 41 :: rest)))) = .ok d (c.data.toList ++ (b2 ++ 40 :: (L ++ 41 :: rest))) := by rw [e, List.cons_append]; exact peek_at hb g5
      rw [e1, termL, hpk]
      simp only [g6, g1, g2, g3, g4, if_false, Bool.true_eq_false, hname, hc]
      rw [skip_blanks _ _ hb2, skip_none (by rfl)]
      simp only [if_true, listsL, hlist, List.nil_append, Bool.false_eq_true, if_false]
      exact ⟨rest, rfl, rfl⟩
    · have hq := quot_quoted t rest
      have e : quoteL t ++ rest = 34 :: (qBytes t ++ [34] ++ rest) := by simp [quoteL]
      rw [termL, e, peek_at hb (by rfl), ← e]
      have g6 : signB 34 = true := by rfl
      simp only [g6, if_false, Bool.true_eq_false, if_true, hq]
      exact ⟨rest, rfl, rfl⟩
    · have g6 : signB 91 = true := by rfl
      have g1 : ¬ ((91 : UInt8) = 34) := by decide
      have e : (91 :: (b2 ++ [93])) ++ rest = 91 :: (b2 ++ 93 :: rest) := by simp
      rw [termL, e, peek_at hb (by rfl)]
      simp only [g6, g1, if_false, Bool.true_eq_false, if_true, List.drop_succ_cons, List.drop_zero, listsL]
      rw [peek_at hb2 (by rfl)]
      simp only [if_true, List.drop_succ_cons, List.drop_zero]
      exact ⟨rest, rfl, rfl⟩
    · have g6 : signB 91 = true := by rfl
      have g1 : ¬ ((91 : UInt8) = 34) := by decide
      have e : (91 :: (L ++ [93])) ++ rest = 91 :: (L ++ 93 :: rest) := by simp
      obtain ⟨bb, d, r', hLe, hbb, hd1, hd2⟩ := spellL_first ks m L hL
      have hlist := spellL_reads ks m L hL 93 rest (Or.inr rfl) ((L ++ 93 :: rest).length + 1) [] (by
        have := spellL_len ks m L hL
        simp; omega)
      have hpk : peekL (L ++ 93 :: rest) = .ok d (skipL (L ++ 93 :: rest)) := by
        rw [hLe, List.append_assoc, List.cons_append, peek_at hbb hd1, skip_blanks _ _ hbb, skip_none hd1]
      rw [termL, e, peek_at hb (by rfl)]
      simp only [g6, g1, if_false, Bool.true_eq_false, if_true, List.drop_succ_cons, List.drop_zero, listsL, hpk, hd2]
      rw [listL_skip _ _ _ _ (by omega), hlist]
      exact ⟨rest, rfl, rfl⟩
    · have g6 : signB 45 = true := by rfl
      have g1 : ¬ ((45 : UInt8) = 34) := by decide
      have g2 : ¬ ((45 : UInt8) = 91) := by decide
      rw [termL, List.cons_append, peek_at hb (by rfl)]
      simp only [g6, g1, g2, if_false, Bool.true_eq_false, if_true, List.drop_succ_cons, List.drop_zero, List.nil_append]
      exact ⟨rest, rfl, rfl⟩
    · have g6 : signB 63 = true := by rfl
      have g1 : ¬ ((63 : UInt8) = 34) := by decide
      have g2 : ¬ ((63 : UInt8) = 91) := by decide
      have g3 : ¬ ((63 : UInt8) = 45) := by decide
      match ks, hL with
      | [x], hL =>
        rw [SpellH] at hL
        obtain ⟨r, h1, h2⟩ := spell_reads x m L rest hL.2 hr
        rw [termL, List.cons_append, peek_at hb (by rfl)]
        simp only [g6, g1, g2, g3, if_false, Bool.true_eq_false, if_true, List.drop_succ_cons, List.drop_zero, List.nil_append, h1]
        exact ⟨r, rfl, h2⟩
      | [], hL => rw [SpellH] at hL; exact hL.elim
      | x :: y :: r, hL => rw [SpellH] at hL; exact absurd hL.1 (by simp)
theorem spellL_reads : ∀ (ks : List Tm) (n : Nat) (l : List UInt8), SpellL ks n l → ∀ (e : UInt8) (rest : List UInt8), (e = 41 ∨ e = 93) → ∀ (m : Nat) (acc : List Tm), ks.length ≤ m → listL (termL n) e m (l ++ e :: rest) acc = .ok (acc ++ ks) rest
  | [], n, l, h => by rw [SpellL] at h; exact h.elim
  | x :: xs, n, l, h => by
    intro e rest he m acc hm
    rw [SpellL] at h
    obtain ⟨l1, b, hb, hx, h⟩ := h
    match m, hm with
    | m + 1, hm =>
    have heb : blankB e = false := by rcases he with rfl | rfl <;> rfl
    rcases h with ⟨rfl, rfl⟩ | ⟨hne, L, rfl, hL⟩
    · obtain ⟨r, h1, h2⟩ := spell_reads x n l1 (b ++ e :: rest) hx (Behind.blanks hb (Behind.sign (Or.inr he)))
      have hpk : peekL r = .ok e (e :: rest) := by rw [← peek_skip, h2, peek_skip, peek_at hb heb]
      rw [List.append_assoc, listL, h1]
      simp only [hpk, if_true, List.drop_succ_cons, List.drop_zero]
    · obtain ⟨r, h1, h2⟩ := spell_reads x n l1 (b ++ 44 :: (L ++ e :: rest)) hx (Behind.blanks hb (Behind.sign (Or.inl rfl)))
      have hpk : peekL r = .ok 44 (44 :: (L ++ e :: rest)) := by rw [← peek_skip, h2, peek_skip, peek_at hb (by rfl)]
      have h44 : ¬ ((44 : UInt8) = e) := by rcases he with rfl | rfl <;> decide
      have ih := spellL_reads xs n L hL e rest he m (acc ++ [x]) (by simpa using hm)
      have e1 : l1 ++ (b ++ 44 :: L) ++ e :: rest = l1 ++ (b ++ 44 :: (L ++ e :: rest)) := by simp
      rw [e1, listL, h1]
      simp only [hpk, h44, if_false, if_true, List.drop_succ_cons, List.drop_zero, ih]
      simp
end

/-- A text of a term, with blanks behind it, is read as the term. -/
theorem spell_parse {T : Tm} {l b : List UInt8} (h : Spell T 200 l) (hb : Bl b) : parseL (l ++ b) = .ok T [] := by
  have hsk : skipL b = [] := by
    have := skip_blanks b [] hb
    rw [List.append_nil] at this
    exact this
  obtain ⟨r, h1, h2⟩ := spell_reads T 200 l b h (fun c r' e => by rw [hsk] at e; cases e)
  unfold parseL
  rw [h1]
  simp only [h2, hsk]

/-! The text that is written. -/
mutual
/-- A term's text. -/
def txt : Tm → List UInt8
  | .mk k c t ks =>
    if k = 1 then (if ks.length = 0 then c.data.toList else c.data.toList ++ (40 :: (txtL ks ++ [41])))
    else if k = 2 then quoteL t
    else if k = 3 then 91 :: (txtL ks ++ [93])
    else if k = 4 then [45]
    else if k = 5 then 63 :: txtH ks
    else []
/-- Texts with commas between them. -/
def txtL : List Tm → List UInt8
  | [] => []
  | x :: xs => txt x ++ txtM xs
/-- Texts with a comma ahead of each. -/
def txtM : List Tm → List UInt8
  | [] => []
  | x :: xs => 44 :: (txt x ++ txtM xs)
def txtH : List Tm → List UInt8
  | [] => []
  | x :: _ => txt x
end
/-- Behind what is written stands the text, or it is too long both ways. -/
def Wrote (a b : List UInt8) : Prop := a = b ∨ (65536 < a.length ∧ 65536 < b.length)
theorem Wrote.snoc {a b : List UInt8} (h : Wrote a b) (s : List UInt8) : Wrote (a ++ s) (b ++ s) := by
  rcases h with rfl | ⟨h1, h2⟩
  · exact Or.inl rfl
  · exact Or.inr ⟨by simp; omega, by simp; omega⟩
mutual
theorem wrT_more : ∀ (T : Tm) (acc : List UInt8), acc.length ≤ (wrT T acc).length
  | .mk k c t ks, acc => by
    have h1 := wrL_more true ks (acc ++ c.data.toList ++ [40])
    have h3 := wrL_more true ks (acc ++ [91])
    have h5 := wrH_more ks (acc ++ [63])
    rw [wrT]
    simp only [List.length_append, List.length_cons, List.length_nil] at h1 h3 h5
    repeat' split
    all_goals ((try simp only [List.length_append, List.length_cons, List.length_nil]); omega)
theorem wrL_more : ∀ (first : Bool) (ks : List Tm) (acc : List UInt8), acc.length ≤ (wrL first ks acc).length
  | _, [], acc => by rw [wrL]; omega
  | first, x :: xs, acc => by
    rw [wrL]
    have h0 : acc.length ≤ (if first then acc else acc ++ [44]).length := by split <;> simp
    revert h0
    generalize (if first then acc else acc ++ [44]) = a1
    intro h0
    have h1 := wrT_more x a1
    have h3 : a1.length ≤ (if a1.length ≤ 65536 then wrT x a1 else a1).length := by
      split <;> omega
    have h2 := wrL_more false xs (if a1.length ≤ 65536 then wrT x a1 else a1)
    omega
theorem wrH_more : ∀ (ks : List Tm) (acc : List UInt8), acc.length ≤ (wrH ks acc).length
  | [], acc => by rw [wrH]; omega
  | x :: xs, acc => by
    rw [wrH]
    exact wrT_more x acc
end
mutual
theorem wrT_txt : ∀ (T : Tm) (acc : List UInt8), Wrote (wrT T acc) (acc ++ txt T)
  | .mk k c t ks, acc => by
    have h1 := (wrL_txt true ks (acc ++ c.data.toList ++ [40])).snoc [41]
    have h3 := (wrL_txt true ks (acc ++ [91])).snoc [93]
    have h5 := wrH_txt ks (acc ++ [63])
    rw [wrT, txt]
    split
    · split
      · exact Or.inl rfl
      · have e : acc ++ c.data.toList ++ [40] ++ txtL ks ++ [41] = acc ++ (c.data.toList ++ 40 :: (txtL ks ++ [41])) := by simp
        rw [← e]; exact h1
    split
    · exact Or.inl rfl
    split
    · have e : acc ++ [91] ++ txtL ks ++ [93] = acc ++ (91 :: (txtL ks ++ [93])) := by simp
      rw [← e]; exact h3
    split
    · exact Or.inl rfl
    split
    · have e : acc ++ [63] ++ txtH ks = acc ++ (63 :: txtH ks) := by simp
      rw [← e]; exact h5
    · left; simp
theorem wrL_txt : ∀ (first : Bool) (ks : List Tm) (acc : List UInt8), Wrote (wrL first ks acc) (acc ++ if first then txtL ks else txtM ks)
  | first, [], acc => by left; rw [wrL]; cases first <;> simp [txtL, txtM]
  | first, x :: xs, acc => by
    rw [wrL]
    have e : (acc ++ if first then txtL (x :: xs) else txtM (x :: xs)) = (if first then acc else acc ++ [44]) ++ (txt x ++ txtM xs) := by
      cases first <;> simp [txtL, txtM]
    rw [e]
    generalize (if first then acc else acc ++ [44]) = a1
    by_cases hl : a1.length ≤ 65536
    · rw [if_pos hl]
      have h1 := wrT_txt x a1
      have h2 := wrL_txt false xs (wrT x a1)
      simp only [Bool.false_eq_true, if_false] at h2
      rcases h1 with h1 | ⟨h1, h1'⟩
      · rw [h1] at h2 ⊢
        rw [← List.append_assoc]; exact h2
      · right
        have := wrL_more false xs (wrT x a1)
        refine ⟨by omega, ?_⟩
        rw [← List.append_assoc, List.length_append]; omega
    · rw [if_neg hl]
      right
      have := wrL_more false xs a1
      exact ⟨by omega, by rw [List.length_append]; omega⟩
theorem wrH_txt : ∀ (ks : List Tm) (acc : List UInt8), Wrote (wrH ks acc) (acc ++ txtH ks)
  | [], acc => by left; rw [wrH, txtH]; simp
  | x :: xs, acc => by
    rw [wrH, txtH]
    exact wrT_txt x acc
end

/-! A right term's text spells it. -/
theorem rightB_all {n : Nat} {ks : List Tm} (h : ks.all (rightB n) = true) : ∀ x ∈ ks, rightB n x = true := by simpa using h
mutual
theorem txt_spell : ∀ (T : Tm) (n : Nat), rightB n T = true → Spell T n (txt T)
  | .mk k c t ks, 0, h => by rw [rightB] at h; cases h
  | .mk k c t ks, n + 1, h => by
    rw [rightB, Bool.and_eq_true] at h
    obtain ⟨h1, h2⟩ := h
    have hall := rightB_all h2
    have hce : c.data.toList.isEmpty = true → c = emptyB := by
      intro he
      have : c.data.toList = [] := by simpa using he
      have h3 : c.data = #[] := Array.toList_inj.1 this
      obtain ⟨d⟩ := c
      have h4 : d = #[] := h3
      subst h4
      rfl
    rw [Spell, txt]
    refine ⟨n, [], _, rfl, (List.nil_append _).symm, Bl.nil, ?_⟩
    unfold okB at h1
    by_cases k1 : k = 1
    · rw [if_pos k1] at h1
      rw [if_pos k1]
      rw [Bool.and_eq_true] at h1
      have ht : t = [] := by simpa using h1.2
      by_cases hk : ks.length = 0
      · rw [if_pos hk]
        exact Or.inl ⟨k1, h1.1, ht, List.eq_nil_of_length_eq_zero hk, rfl⟩
      · rw [if_neg hk]
        have hne : ks ≠ [] := by rintro rfl; exact hk rfl
        exact Or.inr (Or.inl ⟨k1, h1.1, ht, hne, [], txtL ks, Bl.nil, rfl, txtL_spell ks n hne hall⟩)
    rw [if_neg k1] at h1; rw [if_neg k1]
    by_cases k2 : k = 2
    · rw [if_pos k2] at h1; rw [if_pos k2]
      rw [Bool.and_eq_true, decide_eq_true_eq] at h1
      exact Or.inr (Or.inr (Or.inl ⟨k2, hce h1.1, List.eq_nil_of_length_eq_zero h1.2, rfl⟩))
    rw [if_neg k2] at h1; rw [if_neg k2]
    by_cases k3 : k = 3
    · rw [if_pos k3] at h1; rw [if_pos k3]
      rw [Bool.and_eq_true] at h1
      have ht : t = [] := by simpa using h1.2
      by_cases hk : ks = []
      · subst hk
        exact Or.inr (Or.inr (Or.inr (Or.inl ⟨k3, hce h1.1, ht, rfl, [], Bl.nil, rfl⟩)))
      · exact Or.inr (Or.inr (Or.inr (Or.inr (Or.inl ⟨k3, hce h1.1, ht, hk, txtL ks, rfl, txtL_spell ks n hk hall⟩))))
    rw [if_neg k3] at h1; rw [if_neg k3]
    by_cases k4 : k = 4
    · rw [if_pos k4] at h1; rw [if_pos k4]
      rw [Bool.and_eq_true, Bool.and_eq_true, decide_eq_true_eq] at h1
      have ht : t = [] := by simpa using h1.1.2
      exact Or.inr (Or.inr (Or.inr (Or.inr (Or.inr (Or.inl ⟨k4, hce h1.1.1, ht, List.eq_nil_of_length_eq_zero h1.2, rfl⟩)))))
    rw [if_neg k4] at h1; rw [if_neg k4]
    by_cases k5 : k = 5
    · rw [if_pos k5] at h1; rw [if_pos k5]
      rw [Bool.and_eq_true, Bool.and_eq_true, decide_eq_true_eq] at h1
      have ht : t = [] := by simpa using h1.1.2
      exact Or.inr (Or.inr (Or.inr (Or.inr (Or.inr (Or.inr ⟨k5, hce h1.1.1, ht, txtH ks, rfl, txtH_spell ks n h1.2 hall⟩)))))
    rw [if_neg k5] at h1
    cases h1
theorem txtL_spell : ∀ (ks : List Tm) (n : Nat), ks ≠ [] → (∀ x ∈ ks, rightB n x = true) → SpellL ks n (txtL ks)
  | [], _, h, _ => absurd rfl h
  | x :: xs, n, _, h => by
    rw [txtL]
    exact txtM_spell x xs n h
theorem txtM_spell : ∀ (x : Tm) (xs : List Tm) (n : Nat), (∀ y ∈ x :: xs, rightB n y = true) → SpellL (x :: xs) n (txt x ++ txtM xs)
  | x, [], n, h => by
    rw [SpellL, txtM]
    exact ⟨txt x, [], Bl.nil, txt_spell x n (h x (List.mem_cons_self ..)), Or.inl ⟨rfl, rfl⟩⟩
  | x, y :: ys, n, h => by
    rw [SpellL, txtM]
    exact ⟨txt x, [], Bl.nil, txt_spell x n (h x (List.mem_cons_self ..)), Or.inr ⟨by simp, txt y ++ txtM ys, rfl, txtM_spell y ys n fun z hz => h z (List.mem_cons_of_mem _ hz)⟩⟩
theorem txtH_spell : ∀ (ks : List Tm) (n : Nat), ks.length = 1 → (∀ x ∈ ks, rightB n x = true) → SpellH ks n (txtH ks)
  | [], _, h, _ => by simp at h
  | x :: xs, n, h, hall => by
    rw [SpellH, txtH]
    exact ⟨List.eq_nil_of_length_eq_zero (by simpa using h), txt_spell x n (hall x (List.mem_cons_self ..))⟩
end

/-- What is written is read as the term. -/
theorem parse_txt {T : Tm} (h : rightB 200 T = true) : parseL (txt T) = .ok T [] := by
  have := spell_parse (b := []) (txt_spell T 200 h) Bl.nil
  rwa [List.append_nil] at this
theorem txt_inj {T U : Tm} (hT : rightB 200 T = true) (hU : rightB 200 U = true) (h : txt T = txt U) : T = U := by
  have h1 := parse_txt hT
  rw [h, parse_txt hU] at h1
  injection h1 with h2 _
  exact h2.symm
end Go.Proofs.Ytfndldfnlncabaa
