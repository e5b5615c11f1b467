/- The walk of the reader's method quoted. -/
import Derived.Test.YtfndldfnlncabaaPeek
import Derived.Deep.RegionWith
namespace Go.Proofs.Ytfndldfnlncabaa
set_option linter.unnecessarySimpa false
set_option linter.deprecated false
open Go.RowKit
set_option linter.unusedVariables false
set_option linter.unusedSimpArgs false

theorem escL_take (l : List UInt8) (k : Nat) (hk : (escL l).2 ≤ k) (h0 : (escL l).2 ≠ 0) : escL (l.take k) = escL l := by
  match l with
  | [] => simp [escL] at h0
  | [a] => simp [escL] at h0
  | a :: b :: r =>
    have h2 : 2 ≤ k := by
      have : 2 ≤ (escL (a :: b :: r)).2 := by
        revert h0
        unfold escL
        repeat' split
        all_goals simp
      omega
    obtain ⟨k, rfl⟩ : ∃ j, k = j + 2 := ⟨k - 2, by omega⟩
    simp only [List.take_succ_cons]
    by_cases e5 : b = 120
    · subst e5
      match r with
      | [] => simp
      | [x] =>
        exfalso
        exact h0 rfl
      | x :: y :: z =>
        have e : ∀ q, escL (a :: 120 :: x :: y :: q) = if 0 ≤ valI x.toNat ∧ 0 ≤ valI y.toNat then (UInt8.ofNat (16 * valI x.toNat + valI y.toNat).toNat, 4) else (0, 0) := fun q => rfl
        rw [e] at hk h0 ⊢
        by_cases hv : 0 ≤ valI x.toNat ∧ 0 ≤ valI y.toNat
        · rw [if_pos hv] at hk
          obtain ⟨k, rfl⟩ : ∃ j, k = j + 2 := ⟨k - 2, by simp only at hk; omega⟩
          simp only [List.take_succ_cons]
          rw [e]
        · rw [if_neg hv] at h0
          exact absurd rfl h0
    · have e : ∀ q, escL (a :: b :: q) = if b = 34 ∨ b = 92 then (b, 2) else if b = 110 then (10, 2) else if b = 116 then (9, 2) else if b = 114 then (13, 2) else (0, 0) := fun q => by
        simp only [escL, if_neg e5]
      rw [e, e]

/-- What is read is read of the text up to the closing quote alone, too. -/
theorem unqL_take (n : Nat) : ∀ (l acc bs rest : List UInt8) (m : Nat), unqL n l acc = .ok bs rest → l.length < n → l.length - rest.length ≤ m → unqL m (l.take (l.length - rest.length)) acc = .ok bs [] := by
  induction n with
  | zero => intro l acc bs rest m h hn; omega
  | succ n ih =>
    intro l acc bs rest m h hn hm
    have hr := unqL_rest _ _ _ _ _ h
    cases l with
    | nil => simp at hr
    | cons c r =>
      obtain ⟨m, rfl⟩ : ∃ j, m = j + 1 := ⟨m - 1, by omega⟩
      rw [unqL] at h
      have hlen : (c :: r).length - rest.length = (r.length - rest.length) + 1 := by simp only [List.length_cons] at hr ⊢; omega
      rw [hlen, List.take_succ_cons, unqL]
      by_cases c1 : c = 34
      · rw [if_pos c1] at h ⊢
        injection h with h1 h2
        subst h1 h2
        simp
      · rw [if_neg c1] at h ⊢
        by_cases c2 : c = 92
        · rw [if_pos c2] at h ⊢
          by_cases c3 : (escL (c :: r)).2 = 0
          · rw [if_pos c3] at h; cases h
          · rw [if_neg c3] at h
            have hr2 := unqL_rest _ _ _ _ _ h
            have hle := escL_len (c :: r)
            rw [List.length_drop] at hr2
            have hee : escL (c :: r.take (r.length - rest.length)) = escL (c :: r) := by
              have := escL_take (c :: r) ((r.length - rest.length) + 1) (by simp only [List.length_cons] at hr2 hle; omega) c3
              rwa [List.take_succ_cons] at this
            rw [hee, if_neg c3]
            have hd : (c :: r.take (r.length - rest.length)).drop (escL (c :: r)).2 = ((c :: r).drop (escL (c :: r)).2).take (((c :: r).drop (escL (c :: r)).2).length - rest.length) := by
              rw [← List.take_succ_cons, List.drop_take, List.length_drop]
              congr 1
              simp only [List.length_cons] at hr2 hle ⊢
              omega
            rw [hd]
            refine ih _ _ _ _ _ h ?_ ?_
            · rw [List.length_drop]; simp only [List.length_cons] at hn ⊢; omega
            · rw [List.length_drop]; simp only [List.length_cons] at hm hle ⊢; omega
        · rw [if_neg c2] at h ⊢
          by_cases c3 : c < 32 ∨ 126 < c
          · rw [if_pos c3] at h; cases h
          · rw [if_neg c3] at h ⊢
            exact ih _ _ _ _ _ h (by simp only [List.length_cons] at hn; omega) (by simp only [List.length_cons] at hm; omega)

/-- What the reader's quoted hands back. -/
def QuotPost (g : Nat) (s : ByteArray) (B : Nat) (r : PR (List UInt8)) (e : Ending) (w' : World) : Prop :=
  match r with
  | .ok bs l => ∃ a cap, e = .returned (.slice a bs.length cap) ∧ RBo (fun k => B ≤ k) w' a bs ∧ Rd w' g s (s.size - l.length)
  | .bad m code => e = faultP ((s.size - m : Nat) : Int) code

theorem extract_rest (s : ByteArray) (p : Nat) (hp : p ≤ s.size) : (s.extract p s.size).size = s.size - p ∧ (s.extract p s.size).data.toList = s.data.toList.drop p := by
  refine ⟨?_, Lib.extract_to_end s p⟩
  rw [← size_len, Lib.extract_to_end, List.length_drop, size_len]
theorem extract_part (s : ByteArray) (p q : Nat) (hp : p ≤ q) (hq : q ≤ s.size) : (s.extract p q).size = q - p ∧ (s.extract p q).data.toList = (s.data.toList.drop p).take (q - p) := by
  refine ⟨?_, Lib.extract_data s p q⟩
  rw [← size_len, Lib.extract_data, List.length_take, List.length_drop, size_len]
  omega
theorem first_of (s : ByteArray) (p : Nat) (t : ByteArray) (h : 0 < t.size) (hp : p < s.size) (ht : t.data.toList = (s.data.toList.drop p).take t.size) : t[0]'h = s[p]'hp := by
  have h1 := drop_at t 0 h
  rw [List.drop_zero, ht, drop_at s p hp] at h1
  obtain ⟨n, hn⟩ : ∃ n, t.size = n + 1 := ⟨t.size - 1, by omega⟩
  rw [hn, List.take_succ_cons] at h1
  injection h1 with h1 _
  exact h1.symm

end Go.Proofs.Ytfndldfnlncabaa
