/- Plain lemmas: blanks put around the signs of a term's text leave a text of the term. -/
import Derived.Test.YtfndldfnlncabaaSpell
set_option linter.unusedVariables false
set_option linter.unusedSimpArgs false
set_option linter.unnecessarySimpa false
set_option linter.deprecated false
set_option linter.unusedSectionVars false
namespace Go.Proofs.Ytfndldfnlncabaa

def signC (c : UInt8) : Bool := c == 40 || c == 41 || c == 44 || c == 91 || c == 93 || c == 63 || c == 45
/-- How many backslashes a list begins with. -/
def lead : List UInt8 → Nat
  | [] => 0
  | c :: r => if c = 92 then lead r + 1 else 0
/-- Does a quote open or close here? What stands ahead is told backwards. -/
def togB (rv : List UInt8) (q : Bool) : Bool := rv.isEmpty || !q || !(rv.headD 0 == 92) || decide (lead rv % 2 = 0)
def tog (rv : List UInt8) (q : Bool) (c : UInt8) : Bool := if c = 34 then (if togB rv q = true then !q else q) else q
/-- A blank, by a number. -/
def blankC (n : Nat) : UInt8 := if n = 0 then 32 else if n = 1 then 10 else if n = 2 then 9 else 13
/-- Blanks put around signs; f, g: which blanks a number means. -/
def pad (f g : Int → UInt8) : List UInt8 → Bool → List Int → List UInt8 → List UInt8
  | _, _, _, [] => []
  | rv, q, bl, c :: r =>
    if (!q && signC c && !bl.isEmpty) = true then f (bl.headD 0) :: c :: g (bl.headD 0) :: pad f g (c :: rv) (tog rv q c) bl.tail r
    else c :: pad f g (c :: rv) (tog rv q c) bl r

theorem pad_len (f g : Int → UInt8) : ∀ (l rv : List UInt8) (q : Bool) (bl : List Int), (pad f g rv q bl l).length ≤ 3 * l.length
  | [], rv, q, bl => by simp [pad]
  | c :: r, rv, q, bl => by
    rw [pad]
    split
    · have := pad_len f g r (c :: rv) (tog rv q c) bl.tail; simp; omega
    · have := pad_len f g r (c :: rv) (tog rv q c) bl; simp; omega

theorem hexD_ne : ∀ a, a < 16 → hexD a ≠ 34 ∧ hexD a ≠ 92 := by decide

section
variable {f g : Int → UInt8} (hf : ∀ b, blankB (f b) = true) (hg : ∀ b, blankB (g b) = true)
include hf hg

theorem pad_sign {c : UInt8} (hc : signC c = true) (rv : List UInt8) (bl : List Int) (r : List UInt8) :
    ∃ p s bl', Bl p ∧ Bl s ∧ pad f g rv false bl (c :: r) = p ++ c :: (s ++ pad f g (c :: rv) false bl' r) := by
  have ht : tog rv false c = false := by
    unfold tog
    rw [if_neg]
    rintro rfl
    revert hc; decide
  rw [pad, hc, ht]
  cases bl with
  | nil => exact ⟨[], [], [], Bl.nil, Bl.nil, by simp⟩
  | cons b bl' =>
    refine ⟨[f b], [g b], bl', ?_, ?_, by simp⟩
    · intro x hx; rw [List.mem_singleton.1 hx]; exact hf b
    · intro x hx; rw [List.mem_singleton.1 hx]; exact hg b
omit hf hg in
theorem pad_plain : ∀ (l : List UInt8) (rv : List UInt8) (bl : List Int) (r : List UInt8), (∀ c ∈ l, signC c = false ∧ c ≠ 34) → ∃ rv', pad f g rv false bl (l ++ r) = l ++ pad f g rv' false bl r
  | [], rv, bl, r, _ => ⟨rv, rfl⟩
  | c :: l, rv, bl, r, h => by
    obtain ⟨h1, h2⟩ := h c (List.mem_cons_self ..)
    obtain ⟨rv', e⟩ := pad_plain l (c :: rv) bl r fun x hx => h x (List.mem_cons_of_mem _ hx)
    refine ⟨rv', ?_⟩
    have ht : tog rv false c = false := by unfold tog; rw [if_neg h2]
    rw [List.cons_append, pad, h1, ht, e]
    simp
omit hf hg in
/-- In quotes one byte goes through unless it is a quote that closes. -/
theorem pad_step (c : UInt8) (rv : List UInt8) (bl : List Int) (r : List UInt8) (h : c = 34 → togB rv true = false) : pad f g rv true bl (c :: r) = c :: pad f g (c :: rv) true bl r := by
  have ht : tog rv true c = true := by
    unfold tog
    by_cases h1 : c = 34
    · rw [if_pos h1, h h1]; rfl
    · rw [if_neg h1]
  rw [pad, ht]
  simp
omit hf hg in
theorem pad_qByte (c : UInt8) (rv : List UInt8) (bl : List Int) (r : List UInt8) (hev : lead rv % 2 = 0) : ∃ rv', rv' ≠ [] ∧ lead rv' % 2 = 0 ∧ pad f g rv true bl (qByte c ++ r) = qByte c ++ pad f g rv' true bl r := by
  have h92 : ∀ r, pad f g rv true bl (92 :: r) = 92 :: pad f g (92 :: rv) true bl r := fun r => pad_step 92 rv bl r (fun h => absurd h (by decide))
  have two : ∀ d : UInt8, d ≠ 92 → ∃ rv', rv' ≠ [] ∧ lead rv' % 2 = 0 ∧ pad f g rv true bl ([92, d] ++ r) = [92, d] ++ pad f g rv' true bl r := by
    intro d hd
    refine ⟨d :: 92 :: rv, by simp, by simp [lead, hd], ?_⟩
    show pad f g rv true bl (92 :: d :: r) = 92 :: d :: pad f g (d :: 92 :: rv) true bl r
    rw [h92, pad_step d (92 :: rv) bl r]
    intro _
    simp [togB, lead]
    omega
  unfold qByte
  by_cases h1 : c = 34
  · rw [if_pos h1]; exact two 34 (by decide)
  rw [if_neg h1]
  by_cases h2 : c = 92
  · rw [if_pos h2]
    refine ⟨92 :: 92 :: rv, by simp, by simp [lead]; omega, ?_⟩
    show pad f g rv true bl (92 :: 92 :: r) = 92 :: 92 :: pad f g (92 :: 92 :: rv) true bl r
    rw [h92, pad_step 92 (92 :: rv) bl r (fun h => absurd h (by decide))]
  rw [if_neg h2]
  by_cases h3 : c = 10
  · rw [if_pos h3]; exact two 110 (by decide)
  rw [if_neg h3]
  by_cases h4 : c = 9
  · rw [if_pos h4]; exact two 116 (by decide)
  rw [if_neg h4]
  by_cases h5 : c = 13
  · rw [if_pos h5]; exact two 114 (by decide)
  rw [if_neg h5]
  by_cases h6 : c < 32 ∨ 126 < c
  · rw [if_pos h6]
    have hlt := c.toNat_lt
    obtain ⟨a1, a2⟩ := hexD_ne (c.toNat / 16) (by omega)
    obtain ⟨b1, b2⟩ := hexD_ne (c.toNat % 16) (by omega)
    refine ⟨hexD (c.toNat % 16) :: hexD (c.toNat / 16) :: 120 :: 92 :: rv, by simp, by simp [lead, b2], ?_⟩
    show pad f g rv true bl (92 :: 120 :: hexD (c.toNat / 16) :: hexD (c.toNat % 16) :: r) = 92 :: 120 :: hexD (c.toNat / 16) :: hexD (c.toNat % 16) :: pad f g (hexD (c.toNat % 16) :: hexD (c.toNat / 16) :: 120 :: 92 :: rv) true bl r
    rw [h92, pad_step 120 _ bl _ (fun h => absurd h (by decide)), pad_step _ _ bl _ (fun h => absurd h a1), pad_step _ _ bl _ (fun h => absurd h b1)]
  · rw [if_neg h6]
    exact ⟨c :: rv, by simp, by simp [lead, h2], pad_step c rv bl r (fun h => absurd h h1)⟩
omit hf hg in
theorem pad_qBytes : ∀ (t : List UInt8) (rv : List UInt8) (bl : List Int) (r : List UInt8), lead rv % 2 = 0 → rv ≠ [] → ∃ rv', rv' ≠ [] ∧ lead rv' % 2 = 0 ∧ pad f g rv true bl (qBytes t ++ r) = qBytes t ++ pad f g rv' true bl r
  | [], rv, bl, r, h, hn => ⟨rv, hn, h, by simp [qBytes]⟩
  | c :: t, rv, bl, r, h, hn => by
    have e : qBytes (c :: t) = qByte c ++ qBytes t := by simp [qBytes]
    obtain ⟨rv1, n1, l1, e1⟩ := pad_qByte (f := f) (g := g) c rv bl (qBytes t ++ r) h
    obtain ⟨rv2, n2, l2, e2⟩ := pad_qBytes t rv1 bl r l1 n1
    exact ⟨rv2, n2, l2, by rw [e, List.append_assoc, e1, e2, List.append_assoc]⟩
omit hf hg in
theorem pad_quote (t rv : List UInt8) (bl : List Int) (r : List UInt8) : ∃ rv', pad f g rv false bl (quoteL t ++ r) = quoteL t ++ pad f g rv' false bl r := by
  have h0 : pad f g rv false bl (34 :: (qBytes t ++ 34 :: r)) = 34 :: pad f g (34 :: rv) true bl (qBytes t ++ 34 :: r) := by
    have ht : tog rv false 34 = true := by simp [tog, togB]
    have hs : signC 34 = false := by decide
    rw [pad, ht, hs]
    simp
  obtain ⟨rv1, n1, l1, e1⟩ := pad_qBytes (f := f) (g := g) t (34 :: rv) bl (34 :: r) (by simp [lead]) (by simp)
  have h2 : pad f g rv1 true bl (34 :: r) = 34 :: pad f g (34 :: rv1) false bl r := by
    have ht : tog rv1 true 34 = false := by simp [tog, togB, l1]
    rw [pad, ht]
    simp
  refine ⟨34 :: rv1, ?_⟩
  have e : quoteL t ++ r = 34 :: (qBytes t ++ 34 :: r) := by simp [quoteL]
  rw [e, h0, e1, h2]
  simp [quoteL]

omit hf hg in
theorem Spell.lead {T : Tm} {n : Nat} {l b : List UInt8} (hb : Bl b) (h : Spell T n l) : Spell T n (b ++ l) := by
  cases T with
  | mk k c t ks =>
    rw [Spell] at h ⊢
    obtain ⟨m, b0, s, e, rfl, hb0, h⟩ := h
    exact ⟨m, b ++ b0, s, e, by simp, hb.append hb0, h⟩
omit hf hg in
theorem SpellL.lead {ks : List Tm} {n : Nat} {l b : List UInt8} (hb : Bl b) (h : SpellL ks n l) : SpellL ks n (b ++ l) := by
  cases ks with
  | nil => rw [SpellL] at h; exact h.elim
  | cons x xs =>
    rw [SpellL] at h ⊢
    obtain ⟨l1, b1, hb1, hx, h⟩ := h
    refine ⟨b ++ l1, b1, hb1, hx.lead hb, ?_⟩
    rcases h with ⟨e, rfl⟩ | ⟨e, L, rfl, hL⟩
    · exact Or.inl ⟨e, by simp⟩
    · exact Or.inr ⟨e, L, by simp, hL⟩
omit hf hg in
theorem alnum_plain {c : UInt8} (h : alnumB c = true) : signC c = false ∧ c ≠ 34 := by
  refine ⟨?_, ?_⟩
  · cases hs : signC c with
    | false => rfl
    | true =>
      have : c = 40 ∨ c = 41 ∨ c = 44 ∨ c = 91 ∨ c = 93 ∨ c = 63 ∨ c = 45 := by
        simp only [signC, Bool.or_eq_true, beq_iff_eq] at hs
        rcases hs with (((((h | h) | h) | h) | h) | h) | h <;> simp [h]
      rcases this with rfl | rfl | rfl | rfl | rfl | rfl | rfl <;> (revert h; decide)
  · rintro rfl; revert h; decide

omit hf hg in
theorem SpellL.trail {n : Nat} {p : List UInt8} (hp : Bl p) : ∀ {ks : List Tm} {L : List UInt8}, SpellL ks n L → SpellL ks n (L ++ p)
  | [], L, h => by rw [SpellL] at h; exact h.elim
  | x :: xs, L, h => by
    rw [SpellL] at h ⊢
    obtain ⟨l1, b1, hb1, hx, h⟩ := h
    rcases h with ⟨e, rfl⟩ | ⟨e, L2, rfl, hL⟩
    · exact ⟨l1, b1 ++ p, hb1.append hp, hx, Or.inl ⟨e, by simp⟩⟩
    · exact ⟨l1, b1, hb1, hx, Or.inr ⟨e, L2 ++ p, by simp, SpellL.trail hp hL⟩⟩

mutual
theorem pad_spell : ∀ (T : Tm) (n : Nat), rightB n T = true → ∀ (rv : List UInt8) (bl : List Int) (r : List UInt8), ∃ l b rv' bl', Spell T n l ∧ Bl b ∧ pad f g rv false bl (txt T ++ r) = l ++ (b ++ pad f g rv' false bl' r)
  | .mk k c t ks, 0, h => by rw [rightB] at h; cases h
  | .mk k c t ks, n + 1, h => by
    intro rv bl r
    rw [rightB, Bool.and_eq_true] at h
    obtain ⟨h1, h2⟩ := h
    have hall := rightB_all h2
    have hce : c.data.toList.isEmpty = true → c = emptyB := by
      intro he
      have : c.data.toList = [] := by simpa using he
      have h3 : c.data = #[] := Array.toList_inj.1 this
      obtain ⟨d⟩ := c
      have h4 : d = #[] := h3
      subst h4
      rfl
    unfold okB at h1
    rw [txt]
    simp only [Spell]
    by_cases k1 : k = 1
    · rw [if_pos k1] at h1
      rw [if_pos k1]
      rw [Bool.and_eq_true] at h1
      have ht : t = [] := by simpa using h1.2
      have hpl : ∀ x ∈ c.data.toList, signC x = false ∧ x ≠ 34 := by
        have h3 := h1.1
        unfold isNameL at h3
        simp only [Bool.and_eq_true] at h3
        intro x hx
        exact alnum_plain (List.all_eq_true.1 h3.2 x hx)
      by_cases hk : ks.length = 0
      · rw [if_pos hk]
        obtain ⟨rv', e⟩ := pad_plain (f := f) (g := g) c.data.toList rv bl r hpl
        exact ⟨c.data.toList, [], rv', bl, ⟨n, [], _, rfl, (List.nil_append _).symm, Bl.nil, Or.inl ⟨k1, h1.1, ht, List.eq_nil_of_length_eq_zero hk, rfl⟩⟩, Bl.nil, by rw [e]; simp⟩
      · rw [if_neg hk]
        have hne : ks ≠ [] := by rintro rfl; exact hk rfl
        obtain ⟨rv1, e1⟩ := pad_plain (f := f) (g := g) c.data.toList rv bl (40 :: (txtL ks ++ 41 :: r)) hpl
        obtain ⟨p, s, bl1, hp, hs, e2⟩ := pad_sign hf hg (c := 40) (by decide) rv1 bl (txtL ks ++ 41 :: r)
        obtain ⟨L, rv2, bl2, hL, e3⟩ := padL_spell ks n hne hall (40 :: rv1) bl1 (41 :: r)
        obtain ⟨p2, s2, bl3, hp2, hs2, e4⟩ := pad_sign hf hg (c := 41) (by decide) rv2 bl2 r
        refine ⟨c.data.toList ++ (p ++ 40 :: ((s ++ (L ++ p2)) ++ [41])), s2, 41 :: rv2, bl3, ⟨n, [], _, rfl, (List.nil_append _).symm, Bl.nil, Or.inr (Or.inl ⟨k1, h1.1, ht, hne, p, s ++ (L ++ p2), hp, rfl, SpellL.lead hs (SpellL.trail hp2 hL)⟩)⟩, hs2, ?_⟩
        have e0 : c.data.toList ++ 40 :: (txtL ks ++ [41]) ++ r = c.data.toList ++ 40 :: (txtL ks ++ 41 :: r) := by simp
        rw [e0, e1, e2, e3, e4]
        simp
    rw [if_neg k1] at h1; rw [if_neg k1]
    by_cases k2 : k = 2
    · rw [if_pos k2] at h1; rw [if_pos k2]
      rw [Bool.and_eq_true, decide_eq_true_eq] at h1
      obtain ⟨rv', e⟩ := pad_quote (f := f) (g := g) t rv bl r
      exact ⟨quoteL t, [], rv', bl, ⟨n, [], _, rfl, (List.nil_append _).symm, Bl.nil, Or.inr (Or.inr (Or.inl ⟨k2, hce h1.1, List.eq_nil_of_length_eq_zero h1.2, rfl⟩))⟩, Bl.nil, by rw [e]; simp⟩
    rw [if_neg k2] at h1; rw [if_neg k2]
    by_cases k3 : k = 3
    · rw [if_pos k3] at h1; rw [if_pos k3]
      rw [Bool.and_eq_true] at h1
      have ht : t = [] := by simpa using h1.2
      obtain ⟨p, s, bl1, hp, hs, e2⟩ := pad_sign hf hg (c := 91) (by decide) rv bl (txtL ks ++ 93 :: r)
      have e0 : 91 :: (txtL ks ++ [93]) ++ r = 91 :: (txtL ks ++ 93 :: r) := by simp
      by_cases hk : ks = []
      · subst hk
        obtain ⟨p2, s2, bl3, hp2, hs2, e4⟩ := pad_sign hf hg (c := 93) (by decide) (91 :: rv) bl1 r
        refine ⟨p ++ 91 :: ((s ++ p2) ++ [93]), s2, 93 :: 91 :: rv, bl3, ⟨n, p, _, rfl, rfl, hp, Or.inr (Or.inr (Or.inr (Or.inl ⟨k3, hce h1.1, ht, rfl, s ++ p2, hs.append hp2, rfl⟩)))⟩, hs2, ?_⟩
        rw [e0, e2]
        rw [txtL, List.nil_append, e4]
        simp
      · obtain ⟨L, rv2, bl2, hL, e3⟩ := padL_spell ks n hk hall (91 :: rv) bl1 (93 :: r)
        obtain ⟨p2, s2, bl3, hp2, hs2, e4⟩ := pad_sign hf hg (c := 93) (by decide) rv2 bl2 r
        refine ⟨p ++ 91 :: ((s ++ (L ++ p2)) ++ [93]), s2, 93 :: rv2, bl3, ⟨n, p, _, rfl, rfl, hp, Or.inr (Or.inr (Or.inr (Or.inr (Or.inl ⟨k3, hce h1.1, ht, hk, s ++ (L ++ p2), rfl, SpellL.lead hs (SpellL.trail hp2 hL)⟩))))⟩, hs2, ?_⟩
        rw [e0, e2, e3, e4]
        simp
    rw [if_neg k3] at h1; rw [if_neg k3]
    by_cases k4 : k = 4
    · rw [if_pos k4] at h1; rw [if_pos k4]
      rw [Bool.and_eq_true, Bool.and_eq_true, decide_eq_true_eq] at h1
      have ht : t = [] := by simpa using h1.1.2
      obtain ⟨p, s, bl1, hp, hs, e2⟩ := pad_sign hf hg (c := 45) (by decide) rv bl r
      exact ⟨p ++ [45], s, 45 :: rv, bl1, ⟨n, p, _, rfl, rfl, hp, Or.inr (Or.inr (Or.inr (Or.inr (Or.inr (Or.inl ⟨k4, hce h1.1.1, ht, List.eq_nil_of_length_eq_zero h1.2, rfl⟩)))))⟩, hs, by rw [List.cons_append, List.nil_append, e2]; simp⟩
    rw [if_neg k4] at h1; rw [if_neg k4]
    by_cases k5 : k = 5
    · rw [if_pos k5] at h1; rw [if_pos k5]
      rw [Bool.and_eq_true, Bool.and_eq_true, decide_eq_true_eq] at h1
      have ht : t = [] := by simpa using h1.1.2
      match ks, h1.2, hall with
      | [x], _, hall =>
        obtain ⟨p, s, bl1, hp, hs, e2⟩ := pad_sign hf hg (c := 63) (by decide) rv bl (txt x ++ r)
        obtain ⟨l, b, rv', bl', hl, hb, e3⟩ := pad_spell x n (hall x (List.mem_cons_self ..)) (63 :: rv) bl1 r
        refine ⟨p ++ 63 :: (s ++ l), b, rv', bl', ⟨n, p, _, rfl, rfl, hp, Or.inr (Or.inr (Or.inr (Or.inr (Or.inr (Or.inr ⟨k5, hce h1.1.1, ht, s ++ l, rfl, ?_⟩)))))⟩, hb, ?_⟩
        · rw [SpellH]; exact ⟨rfl, hl.lead hs⟩
        · rw [txtH, List.cons_append, e2, e3]
          simp
    rw [if_neg k5] at h1
    cases h1
theorem padL_spell : ∀ (ks : List Tm) (n : Nat), ks ≠ [] → (∀ x ∈ ks, rightB n x = true) → ∀ (rv : List UInt8) (bl : List Int) (r : List UInt8), ∃ L rv' bl', SpellL ks n L ∧ pad f g rv false bl (txtL ks ++ r) = L ++ pad f g rv' false bl' r
  | [], _, h, _ => absurd rfl h
  | x :: xs, n, _, h => by
    intro rv bl r
    rw [txtL]
    exact padM_spell x xs n h rv bl r
theorem padM_spell : ∀ (x : Tm) (xs : List Tm) (n : Nat), (∀ y ∈ x :: xs, rightB n y = true) → ∀ (rv : List UInt8) (bl : List Int) (r : List UInt8), ∃ L rv' bl', SpellL (x :: xs) n L ∧ pad f g rv false bl (txt x ++ txtM xs ++ r) = L ++ pad f g rv' false bl' r
  | x, [], n, h => by
    intro rv bl r
    obtain ⟨l, b, rv', bl', hl, hb, e⟩ := pad_spell x n (h x (List.mem_cons_self ..)) rv bl r
    refine ⟨l ++ b, rv', bl', ?_, by rw [txtM, List.append_nil, e]; simp⟩
    rw [SpellL]
    exact ⟨l, b, hb, hl, Or.inl ⟨rfl, rfl⟩⟩
  | x, y :: ys, n, h => by
    intro rv bl r
    obtain ⟨l, b, rv', bl', hl, hb, e⟩ := pad_spell x n (h x (List.mem_cons_self ..)) rv bl (44 :: (txt y ++ txtM ys ++ r))
    obtain ⟨p, s, bl1, hp, hs, e2⟩ := pad_sign hf hg (c := 44) (by decide) rv' bl' (txt y ++ txtM ys ++ r)
    obtain ⟨L, rv2, bl2, hL, e3⟩ := padM_spell y ys n (fun z hz => h z (List.mem_cons_of_mem _ hz)) (44 :: rv') bl1 r
    refine ⟨l ++ ((b ++ p) ++ 44 :: (s ++ L)), rv2, bl2, ?_, ?_⟩
    · rw [SpellL]
      exact ⟨l, b ++ p, hb.append hp, hl, Or.inr ⟨by simp, s ++ L, rfl, SpellL.lead hs hL⟩⟩
    · rw [txtM]
      have e0 : txt x ++ 44 :: (txt y ++ txtM ys) ++ r = txt x ++ 44 :: (txt y ++ txtM ys ++ r) := by simp
      rw [e0, e, e2, e3]
      simp
end

/-- A text with blanks around its signs is read as the term. -/
theorem parse_pad {T : Tm} (h : rightB 200 T = true) (bl : List Int) : parseL (pad f g [] false bl (txt T)) = .ok T [] := by
  obtain ⟨l, b, rv', bl', hl, hb, e⟩ := pad_spell hf hg T 200 h [] bl []
  rw [List.append_nil] at e
  rw [e, pad, List.append_nil]
  exact spell_parse hl hb
end
end Go.Proofs.Ytfndldfnlncabaa
