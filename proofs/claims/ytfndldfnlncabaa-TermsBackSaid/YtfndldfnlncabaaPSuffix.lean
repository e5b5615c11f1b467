/- Plain lemmas: what is left when a term has been read is the end of what there was. -/
import Derived.Test.YtfndldfnlncabaaPPlain
set_option linter.unusedVariables false
set_option linter.unusedSimpArgs false
set_option linter.unnecessarySimpa false
set_option linter.deprecated false
namespace Go.Proofs.Ytfndldfnlncabaa

/-- r is l's end, and shorter. -/
def Tail (r l : List UInt8) : Prop := r <:+ l ∧ r.length < l.length
theorem Tail.trans {a b c : List UInt8} (h : Tail a b) (k : b <:+ c) : Tail a c := ⟨h.1.trans k, Nat.lt_of_lt_of_le h.2 k.length_le⟩
theorem Tail.trans' {a b c : List UInt8} (h : a <:+ b) (k : Tail b c) : Tail a c := ⟨h.trans k.1, Nat.lt_of_le_of_lt h.length_le k.2⟩
theorem Tail.drop {l : List UInt8} (h : 0 < l.length) : Tail (l.drop 1) l := ⟨List.drop_suffix _ _, by rw [List.length_drop]; omega⟩
theorem Tail.cons (c : UInt8) (l : List UInt8) : Tail l (c :: l) := ⟨List.suffix_cons _ _, by simp⟩

theorem unqL_tail (n : Nat) : ∀ (l acc bs rest : List UInt8), unqL n l acc = .ok bs rest → Tail rest l := by
  induction n with
  | zero => intro l acc bs rest h; simp [unqL] at h
  | succ n ih =>
    intro l acc bs rest h
    cases l with
    | nil => simp [unqL] at h
    | cons c r =>
      rw [unqL] at h
      split at h
      · injection h with h1 h2; subst h2; exact Tail.cons _ _
      · split at h
        · split at h
          · cases h
          · exact (ih _ _ _ _ h).trans (List.drop_suffix _ _)
        · split at h
          · cases h
          · exact (ih _ _ _ _ h).trans (List.suffix_cons _ _)

theorem peekL_ok {l : List UInt8} {c : UInt8} {r : List UInt8} (h : peekL l = .ok c r) : skipL l = r ∧ ∃ r', r = c :: r' := by
  unfold peekL at h
  split at h
  · cases h
  · rename_i c' r' e
    injection h with h1 h2
    subst h1 h2
    exact ⟨e, _, rfl⟩
theorem peekL_suffix {l : List UInt8} {c : UInt8} {r : List UInt8} (h : peekL l = .ok c r) : r <:+ l := by
  rw [← (peekL_ok h).1]
  exact skipL_suffix l

theorem quotL_tail {l bs r : List UInt8} (h : quotL l = .ok bs r) : Tail r l := by
  unfold quotL at h
  split at h
  · rename_i e
    injection h with h1 h2
    subst h1 h2
    exact (unqL_tail _ _ _ _ _ e).trans (List.drop_suffix _ _)
  · cases h
  · cases h

theorem listL_tail {f : List UInt8 → PR Tm} {e : UInt8} (hf : ∀ l T r, f l = .ok T r → Tail r l) (n : Nat) : ∀ (l : List UInt8) (acc ks : List Tm) (r : List UInt8), listL f e n l acc = .ok ks r → Tail r l := by
  induction n with
  | zero => intro l acc ks r h; simp [listL] at h
  | succ n ih =>
    intro l acc ks r h
    rw [listL] at h
    split at h
    · cases h
    · rename_i T r1 e1
      split at h
      · cases h
      · rename_i c r2 e2
        have h1 := hf _ _ _ e1
        have h2 := peekL_suffix e2
        split at h
        · injection h with h3 h4
          subst h4
          exact Tail.trans' ((List.drop_suffix _ _).trans h2) h1
        · split at h
          · exact (ih _ _ _ _ h).trans (((List.drop_suffix _ _).trans h2).trans h1.1)
          · cases h

theorem listsL_tail {f : List UInt8 → PR Tm} {e : UInt8} (hf : ∀ l T r, f l = .ok T r → Tail r l) {emp : Bool} {l : List UInt8} {ks : List Tm} {r : List UInt8} (h : listsL f e emp l = .ok ks r) : Tail r l := by
  unfold listsL at h
  split at h
  · split at h
    · cases h
    · rename_i c r2 e2
      have h2 := peekL_suffix e2
      split at h
      · injection h with h3 h4
        subst h4
        obtain ⟨_, r', e3⟩ := peekL_ok e2
        exact (Tail.drop (by rw [e3]; simp)).trans h2
      · exact (listL_tail hf _ _ _ _ _ h).trans h2
  · exact listL_tail hf _ _ _ _ _ h

theorem termL_tail (n : Nat) : ∀ (l : List UInt8) (T : Tm) (r : List UInt8), termL n l = .ok T r → Tail r l := by
  induction n with
  | zero =>
    intro l T r h
    rw [termL] at h
    split at h
    · cases h
    · split at h <;> cases h
  | succ n ih =>
    intro l T r h
    rw [termL] at h
    split at h
    · cases h
    · rename_i c r1 e1
      have h1 := peekL_suffix e1
      obtain ⟨_, r', e3⟩ := peekL_ok e1
      have hd : Tail (r1.drop 1) l := (Tail.drop (by rw [e3]; simp)).trans h1
      split at h
      · cases h
      · rename_i hs
        simp only at h
        split at h
        · split at h
          · cases h
          · rename_i e2
            injection h with _ h4
            subst h4
            exact (quotL_tail e2).trans h1
        · split at h
          · split at h
            · cases h
            · rename_i e2
              injection h with _ h4
              subst h4
              exact (listsL_tail ih e2).trans hd.1
          · split at h
            · injection h with _ h4
              subst h4
              exact hd
            · split at h
              · split at h
                · cases h
                · rename_i e2
                  injection h with _ h4
                  subst h4
                  exact (ih _ _ _ e2).trans hd.1
              · rename_i n1 n2 n3 n4
                split at h
                · cases h
                · rename_i nm r2 e2
                  have ht : Tail r2 l := by
                    unfold nameL at e2
                    split at e2
                    · injection e2 with _ h5
                      subst h5
                      refine Tail.trans ⟨List.drop_suffix _ _, ?_⟩ h1
                      rw [List.length_drop, e3]
                      have hg : greatB c.toNat = true := by
                        simp [signB, n1, n2, n3, n4] at hs
                        exact hs
                      have ha : alnumB c = true := by unfold alnumB; rw [hg]; rfl
                      have : 1 ≤ runLen (c :: r') := by
                        simp [runLen, List.takeWhile_cons, ha]
                      simp only [List.length_cons]
                      omega
                    · cases e2
                  have hsk := skipL_suffix r2
                  split at h
                  · injection h with _ h4
                    subst h4
                    exact Tail.trans' (List.nil_suffix) ht
                  · rename_i d r3 e4
                    rw [e4] at hsk
                    split at h
                    · split at h
                      · cases h
                      · rename_i e5
                        injection h with _ h4
                        subst h4
                        exact (listsL_tail ih e5).trans ((List.suffix_cons _ _).trans (hsk.trans ht.1))
                    · injection h with _ h4
                      subst h4
                      exact Tail.trans' hsk ht
end Go.Proofs.Ytfndldfnlncabaa
