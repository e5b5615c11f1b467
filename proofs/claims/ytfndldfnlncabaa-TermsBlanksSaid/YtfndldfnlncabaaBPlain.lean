/- Plain lemmas: what is read is right, and not much longer than what it was read from; what cannot be read bears an error. -/
import Derived.Test.YtfndldfnlncabaaSpell
import Derived.Test.YtfndldfnlncabaaPlain
import Derived.Test.YtfndldfnlncabaaUnquote
set_option linter.unusedVariables false
set_option linter.unusedSimpArgs false
set_option linter.unnecessarySimpa false
set_option linter.deprecated false
namespace Go.Proofs.Ytfndldfnlncabaa

theorem unqL_eat (n : Nat) : ∀ (l acc bs rest : List UInt8), unqL n l acc = .ok bs rest → bs.length + rest.length + 1 ≤ acc.length + l.length := by
  induction n with
  | zero => intro l acc bs rest h; simp [unqL] at h
  | succ n ih =>
    intro l acc bs rest h
    cases l with
    | nil => simp [unqL] at h
    | cons c r =>
      rw [unqL] at h
      split at h
      · injection h with h1 h2; subst h1 h2; simp; omega
      · split at h
        · split at h
          · cases h
          · rename_i hne
            have h1 := ih _ _ _ _ h
            have h2 := escL_len (c :: r)
            simp only [List.length_append, List.length_cons, List.length_nil, List.length_drop] at h1 h2 ⊢
            omega
        · split at h
          · cases h
          · have h1 := ih _ _ _ _ h
            simp only [List.length_append, List.length_cons, List.length_nil] at h1 ⊢
            omega
theorem quotL_eat {l bs r : List UInt8} (h : quotL l = .ok bs r) (hl : 0 < l.length) : (quoteL bs).length + 4 * r.length ≤ 4 * l.length := by
  unfold quotL at h
  split at h
  · rename_i e
    injection h with h1 h2
    subst h2
    rw [h1] at e
    have h1 := unqL_eat _ _ _ _ _ e
    simp only [List.length_nil, List.length_drop] at h1
    have h2 := qBytes_len bs
    simp only [quoteL, List.length_append, List.length_cons, List.length_nil]
    omega
  · cases h
  · cases h

/-- How long texts are with a comma each. -/
def sumL (ks : List Tm) : Nat := (ks.map fun x => (txt x).length + 1).sum
theorem txtM_len (ks : List Tm) : (txtM ks).length = sumL ks := by
  induction ks with
  | nil => simp [txtM, sumL]
  | cons x xs ih =>
    rw [txtM]
    simp only [sumL, List.map_cons, List.sum_cons, List.length_cons, List.length_append] at ih ⊢
    omega
theorem txtL_len (ks : List Tm) : (txtL ks).length ≤ sumL ks := by
  cases ks with
  | nil => simp [txtL]
  | cons x xs =>
    have := txtM_len xs
    rw [txtL]
    simp only [sumL, List.map_cons, List.sum_cons, List.length_append] at this ⊢
    omega

/-- What a reader of terms gives is right, and short. -/
def Reads (n : Nat) (f : List UInt8 → PR Tm) : Prop := ∀ l T r, f l = .ok T r → rightB n T = true ∧ (txt T).length + 4 * r.length ≤ 4 * l.length

theorem listL_eat {n : Nat} {f : List UInt8 → PR Tm} {e : UInt8} (hf : Reads n f) (m : Nat) : ∀ (l : List UInt8) (acc ks : List Tm) (r : List UInt8), listL f e m l acc = .ok ks r →
    ∃ new, ks = acc ++ new ∧ (∀ x ∈ new, rightB n x = true) ∧ sumL new + 4 * r.length ≤ 4 * l.length := by
  induction m with
  | zero => intro l acc ks r h; simp [listL] at h
  | succ m ih =>
    intro l acc ks r h
    rw [listL] at h
    split at h
    · cases h
    · rename_i T r1 e1
      split at h
      · cases h
      · rename_i c r2 e2
        have h12 := hf _ _ _ e1
        have h1 := h12.1
        have h2 := h12.2
        have h3 := (peekL_suffix e2).length_le
        obtain ⟨_, r', e3⟩ := peekL_ok e2
        subst e3
        simp only [List.length_cons] at h3
        split at h
        · injection h with h4 h5
          subst h4 h5
          refine ⟨[T], rfl, by simpa using h1, ?_⟩
          simp only [sumL, List.map_cons, List.map_nil, List.sum_cons, List.sum_nil, List.drop_succ_cons, List.drop_zero]
          omega
        · split at h
          · obtain ⟨new, e4, h4, h5⟩ := ih _ _ _ _ h
            refine ⟨T :: new, by rw [e4]; simp, fun x hx => ?_, ?_⟩
            · rcases List.mem_cons.1 hx with rfl | hx
              · exact h1
              · exact h4 x hx
            · simp only [sumL, List.map_cons, List.sum_cons, List.drop_succ_cons, List.drop_zero] at h5 ⊢
              omega
          · cases h
theorem listsL_eat {n : Nat} {f : List UInt8 → PR Tm} {e : UInt8} (hf : Reads n f) {emp : Bool} {l : List UInt8} {ks : List Tm} {r : List UInt8} (h : listsL f e emp l = .ok ks r) :
    (∀ x ∈ ks, rightB n x = true) ∧ sumL ks + 4 * r.length ≤ 4 * l.length := by
  have key : ∀ m l, listL f e m l [] = .ok ks r → (∀ x ∈ ks, rightB n x = true) ∧ sumL ks + 4 * r.length ≤ 4 * l.length := by
    intro m l h
    obtain ⟨new, e1, h1, h2⟩ := listL_eat hf _ _ _ _ _ h
    rw [List.nil_append] at e1
    subst e1
    exact ⟨h1, h2⟩
  unfold listsL at h
  split at h
  · split at h
    · cases h
    · rename_i c r2 e2
      have h3 := (peekL_suffix e2).length_le
      split at h
      · injection h with h4 h5
        subst h4 h5
        refine ⟨(fun x hx => by cases hx), ?_⟩
        simp only [sumL, List.map_nil, List.sum_nil, List.length_drop]
        omega
      · obtain ⟨h4, h5⟩ := key _ _ h
        exact ⟨h4, by omega⟩
  · exact key _ _ h

theorem nameL_eat {c : UInt8} {r' nm r : List UInt8} (hc : greatB c.toNat = true) (h : nameL (c :: r') = .ok nm r) : isNameL nm = true ∧ nm.length + r.length = (c :: r').length := by
  unfold nameL at h
  split at h
  · rename_i hl
    injection h with h1 h2
    subst h1 h2
    have ha : alnumB c = true := by unfold alnumB; rw [hc]; rfl
    have hle := runLen_le (c :: r')
    have e : (c :: r').take (runLen (c :: r')) = (c :: r').takeWhile alnumB := by
      unfold runLen
      have h9 : List.takeWhile alnumB (c :: r') ++ List.dropWhile alnumB (c :: r') = c :: r' := List.takeWhile_append_dropWhile
      have h10 : (List.takeWhile alnumB (c :: r') ++ List.dropWhile alnumB (c :: r')).take (List.takeWhile alnumB (c :: r')).length = List.takeWhile alnumB (c :: r') := List.take_left
      rwa [h9] at h10
    refine ⟨?_, by simp only [List.length_take, List.length_drop]; omega⟩
    rw [e]
    unfold isNameL
    have h5 : (List.takeWhile alnumB (c :: r')).length ≤ 32 := hl
    have h6 : List.takeWhile alnumB (c :: r') = c :: List.takeWhile alnumB r' := by simp [List.takeWhile_cons, ha]
    have h7 : (List.takeWhile alnumB (c :: r')).all alnumB = true := by
      exact List.all_takeWhile
    rw [Bool.and_eq_true, Bool.and_eq_true, Bool.and_eq_true]
    refine ⟨⟨⟨?_, decide_eq_true h5⟩, ?_⟩, h7⟩
    · rw [h6]; rfl
    · rw [h6]; exact hc
  · cases h

theorem termL_eat (n : Nat) : Reads n (termL n) := by
  induction n with
  | zero =>
    intro l T r h
    rw [termL] at h
    split at h
    · cases h
    · split at h <;> cases h
  | succ n ih =>
    intro l T r h
    rw [termL] at h
    split at h
    · cases h
    · rename_i c r1 e1
      have h1 := (peekL_suffix e1).length_le
      obtain ⟨_, r', e3⟩ := peekL_ok e1
      subst e3
      simp only [List.length_cons] at h1
      have hemp : emptyB.data.toList = [] := rfl
      split at h
      · cases h
      · rename_i hs
        simp only at h
        split at h
        · split at h
          · cases h
          · rename_i e2
            injection h with h3 h4
            subst h3 h4
            have h5 := quotL_eat e2 (by simp)
            simp only [List.length_cons] at h5
            refine ⟨by simp [rightB, okB, hemp], ?_⟩
            simp only [txt]
            simp only [show ¬ ((2 : Int) = 1) by decide, if_false, if_true]
            omega
        · split at h
          · split at h
            · cases h
            · rename_i ks r2 e2
              injection h with h3 h4
              subst h3 h4
              obtain ⟨h5, h6⟩ := listsL_eat ih e2
              have h7 := txtL_len ks
              simp only [List.drop_succ_cons, List.drop_zero] at h6
              refine ⟨by simp [rightB, okB, hemp]; exact h5, ?_⟩
              simp only [txt, show ¬ ((3 : Int) = 1) by decide, show ¬ ((3 : Int) = 2) by decide, if_false, if_true, List.length_cons, List.length_append, List.length_nil]
              omega
          · split at h
            · injection h with h3 h4
              subst h3 h4
              refine ⟨by simp [rightB, okB, hemp], ?_⟩
              simp only [txt, show ¬ ((4 : Int) = 1) by decide, show ¬ ((4 : Int) = 2) by decide, show ¬ ((4 : Int) = 3) by decide, if_false, if_true, List.length_cons, List.length_append, List.length_nil, List.drop_succ_cons, List.drop_zero]
              omega
            · split at h
              · split at h
                · cases h
                · rename_i e2
                  injection h with h3 h4
                  subst h3 h4
                  obtain ⟨h5, h6⟩ := ih _ _ _ e2
                  simp only [List.drop_succ_cons, List.drop_zero] at h6
                  refine ⟨by simp [rightB, okB, hemp]; exact h5, ?_⟩
                  simp only [txt, show ¬ ((5 : Int) = 1) by decide, show ¬ ((5 : Int) = 2) by decide, show ¬ ((5 : Int) = 3) by decide, show ¬ ((5 : Int) = 4) by decide, if_false, if_true, txtH, List.length_cons]
                  omega
              · rename_i n1 n2 n3 n4
                have hg : greatB c.toNat = true := by
                  simp [signB, n1, n2, n3, n4] at hs
                  exact hs
                split at h
                · cases h
                · rename_i nm r2 e2
                  obtain ⟨h5, h6⟩ := nameL_eat hg e2
                  simp only [List.length_cons] at h6
                  have hsk := (skipL_suffix r2).length_le
                  have right0 : rightB (n + 1) (.mk 1 ⟨nm.toArray⟩ [] []) = true := by simp [rightB, okB, h5]
                  have len0 : (txt (.mk 1 ⟨nm.toArray⟩ [] [])).length = nm.length := by simp [txt]
                  split at h
                  · injection h with h3 h4
                    subst h3 h4
                    refine ⟨right0, ?_⟩
                    rw [len0]
                    simp only [List.length_nil]
                    omega
                  · rename_i d r3 e4
                    rw [e4] at hsk
                    simp only [List.length_cons] at hsk
                    split at h
                    · split at h
                      · cases h
                      · rename_i ks r4 e5
                        injection h with h3 h4
                        subst h3 h4
                        obtain ⟨h7, h8⟩ := listsL_eat ih e5
                        have h9 := txtL_len ks
                        refine ⟨by simp [rightB, okB, h5]; exact h7, ?_⟩
                        rw [txt, if_pos rfl]
                        split
                        · simp; omega
                        · simp only [List.length_cons, List.length_append, List.length_nil]
                          omega
                    · injection h with h3 h4
                      subst h3 h4
                      refine ⟨right0, ?_⟩
                      rw [len0]
                      simp only [List.length_cons]
                      omega

/-! Errors. -/
theorem quotL_code {l : List UInt8} {m : Nat} {c : Int} (h : quotL l = .bad m c) : c ≠ 0 := by
  unfold quotL at h
  split at h
  · cases h
  · rename_i e
    injection h with _ h2
    subst h2
    rcases unqL_code _ _ _ _ _ e with h | h <;> rw [h] <;> decide
  · injection h with _ h2
    rw [← h2]; decide
theorem peekL_code {l : List UInt8} {m : Nat} {c : Int} (h : peekL l = .bad m c) : c ≠ 0 := by
  unfold peekL at h
  split at h
  · injection h with _ h2; rw [← h2]; decide
  · cases h
theorem nameL_code {l : List UInt8} {m : Nat} {c : Int} (h : nameL l = .bad m c) : c ≠ 0 := by
  unfold nameL at h
  split at h
  · cases h
  · injection h with _ h2; rw [← h2]; decide
theorem listL_code {f : List UInt8 → PR Tm} {e : UInt8} (hf : ∀ l m c, f l = .bad m c → c ≠ 0) (n : Nat) : ∀ (l : List UInt8) (acc : List Tm) (m : Nat) (c : Int), listL f e n l acc = .bad m c → c ≠ 0 := by
  induction n with
  | zero => intro l acc m c h; rw [listL] at h; injection h with _ h2; rw [← h2]; decide
  | succ n ih =>
    intro l acc m c h
    rw [listL] at h
    split at h
    · rename_i e1
      injection h with h1 h2
      subst h1 h2
      exact hf _ _ _ e1
    · split at h
      · rename_i e1
        injection h with h1 h2
        subst h1 h2
        exact peekL_code e1
      · split at h
        · cases h
        · split at h
          · exact ih _ _ _ _ h
          · injection h with _ h2; rw [← h2]; decide
theorem listsL_code {f : List UInt8 → PR Tm} {e : UInt8} (hf : ∀ l m c, f l = .bad m c → c ≠ 0) {emp : Bool} {l : List UInt8} {m : Nat} {c : Int} (h : listsL f e emp l = .bad m c) : c ≠ 0 := by
  unfold listsL at h
  split at h
  · split at h
    · rename_i e1
      injection h with h1 h2
      subst h1 h2
      exact peekL_code e1
    · split at h
      · cases h
      · exact listL_code hf _ _ _ _ _ h
  · exact listL_code hf _ _ _ _ _ h
theorem termL_code (n : Nat) : ∀ (l : List UInt8) (m : Nat) (c : Int), termL n l = .bad m c → c ≠ 0 := by
  induction n with
  | zero =>
    intro l m c h
    rw [termL] at h
    split at h
    · rename_i e1
      injection h with h1 h2
      subst h1 h2
      exact peekL_code e1
    · split at h <;> (injection h with _ h2; rw [← h2]; decide)
  | succ n ih =>
    intro l m c h
    rw [termL] at h
    split at h
    · rename_i e1
      injection h with h1 h2
      subst h1 h2
      exact peekL_code e1
    · split at h
      · injection h with _ h2; rw [← h2]; decide
      · simp only at h
        split at h
        · split at h
          · rename_i e1
            injection h with h1 h2
            subst h1 h2
            exact quotL_code e1
          · cases h
        · split at h
          · split at h
            · rename_i e1
              injection h with h1 h2
              subst h1 h2
              exact listsL_code ih e1
            · cases h
          · split at h
            · cases h
            · split at h
              · split at h
                · rename_i e1
                  injection h with h1 h2
                  subst h1 h2
                  exact ih _ _ _ e1
                · cases h
              · split at h
                · rename_i e1
                  injection h with h1 h2
                  subst h1 h2
                  exact nameL_code e1
                · split at h
                  · cases h
                  · split at h
                    · split at h
                      · rename_i e1
                        injection h with h1 h2
                        subst h1 h2
                        exact listsL_code ih e1
                      · cases h
                    · cases h
/-- What parsing comes to. -/
theorem parseL_cases (l : List UInt8) : (∃ T, parseL l = .ok T [] ∧ rightB 200 T = true ∧ (txt T).length ≤ 4 * l.length) ∨ (∃ m c, parseL l = .bad m c ∧ c ≠ 0) := by
  unfold parseL
  cases h : termL 200 l with
  | bad m c => exact Or.inr ⟨m, c, rfl, termL_code _ _ _ _ h⟩
  | ok T r =>
    obtain ⟨h1, h2⟩ := termL_eat 200 _ _ _ h
    cases hs : skipL r with
    | nil => exact Or.inl ⟨T, by simp only [hs], h1, by omega⟩
    | cons d r2 => exact Or.inr ⟨_, 15, by simp only [hs]; rfl, by decide⟩

mutual
theorem vol_txt : ∀ (T : Tm) (n : Nat), rightB n T = true → vol T + 1 ≤ 14 * (txt T).length
  | .mk k c t ks, 0, h => by rw [rightB] at h; cases h
  | .mk k c t ks, n + 1, h => by
    have hsp := spell_pos _ _ _ (txt_spell _ _ h)
    rw [rightB, Bool.and_eq_true] at h
    obtain ⟨h1, h2⟩ := h
    have hks := volL_txt ks n (rightB_all h2)
    have hM := txtM_len ks
    have hc0 : c.data.toList.isEmpty = true → c.size = 0 := by
      intro he
      have : c.data.toList = [] := by simpa using he
      have e : c.size = c.data.toList.length := by simp
      rw [e, this]; rfl
    have hL : sumL ks ≤ (txtL ks).length + 1 := by
      cases ks with
      | nil => simp [sumL]
      | cons x xs =>
        have := txtM_len xs
        rw [txtL]
        simp only [sumL, List.map_cons, List.sum_cons, List.length_append] at this ⊢
        omega
    rw [vol]
    rw [txt] at hsp ⊢
    unfold okB at h1
    have hcl : c.size = c.data.toList.length := by simp
    by_cases k1 : k = 1
    · rw [if_pos k1] at h1 hsp ⊢
      rw [Bool.and_eq_true] at h1
      have ht : t = [] := by simpa using h1.2
      subst ht
      by_cases hk : ks.length = 0
      · rw [if_pos hk] at hsp ⊢
        have : ks = [] := List.eq_nil_of_length_eq_zero hk
        subst this
        simp only [volL, List.length_nil]
        omega
      · rw [if_neg hk] at hsp ⊢
        simp only [List.length_append, List.length_cons, List.length_nil]
        omega
    rw [if_neg k1] at h1 hsp ⊢
    by_cases k2 : k = 2
    · rw [if_pos k2] at h1 hsp ⊢
      rw [Bool.and_eq_true, decide_eq_true_eq] at h1
      have : ks = [] := List.eq_nil_of_length_eq_zero h1.2
      subst this
      have h0 := hc0 h1.1
      have := qBytes_ge t
      simp only [volL, quoteL, List.length_cons, List.length_append, List.length_nil]
      omega
    rw [if_neg k2] at h1 hsp ⊢
    by_cases k3 : k = 3
    · rw [if_pos k3] at h1 hsp ⊢
      rw [Bool.and_eq_true] at h1
      have ht : t = [] := by simpa using h1.2
      subst ht
      have h0 := hc0 h1.1
      simp only [List.length_append, List.length_cons, List.length_nil]
      omega
    rw [if_neg k3] at h1 hsp ⊢
    by_cases k4 : k = 4
    · rw [if_pos k4] at h1 hsp ⊢
      rw [Bool.and_eq_true, Bool.and_eq_true, decide_eq_true_eq] at h1
      have ht : t = [] := by simpa using h1.1.2
      subst ht
      have h0 := hc0 h1.1.1
      have : ks = [] := List.eq_nil_of_length_eq_zero h1.2
      subst this
      simp only [volL, List.length_cons, List.length_nil]
      omega
    rw [if_neg k4] at h1 hsp ⊢
    by_cases k5 : k = 5
    · rw [if_pos k5] at h1 hsp ⊢
      rw [Bool.and_eq_true, Bool.and_eq_true, decide_eq_true_eq] at h1
      have ht : t = [] := by simpa using h1.1.2
      subst ht
      have h0 := hc0 h1.1.1
      match ks, h1.2, hks with
      | [x], _, hks =>
        simp only [sumL, List.map_cons, List.map_nil, List.sum_cons, List.sum_nil] at hks
        simp only [txtH, List.length_cons, List.length_nil]
        omega
    rw [if_neg k5] at h1
    cases h1
theorem volL_txt : ∀ (ks : List Tm) (n : Nat), (∀ x ∈ ks, rightB n x = true) → volL ks + 14 * ks.length ≤ 14 * sumL ks
  | [], _, _ => by simp [volL, sumL]
  | x :: xs, n, h => by
    have h1 := vol_txt x n (h x (List.mem_cons_self ..))
    have h2 := volL_txt xs n fun y hy => h y (List.mem_cons_of_mem _ hy)
    rw [volL]
    simp only [sumL, List.map_cons, List.sum_cons, List.length_cons] at h2 ⊢
    omega
end
end Go.Proofs.Ytfndldfnlncabaa
