/- What is written is not too long. -/
import Derived.Test.YtcmhlfnmjpmjhaaPTexts
set_option linter.unusedVariables false
set_option linter.unusedSimpArgs false
set_option linter.unnecessarySimpa false
set_option linter.deprecated false
namespace Go.Proofs.Ytcmhlfnmjpmjhaa
open Go.RowKit

mutual
theorem lay_size : ∀ (j : Jb) (fl : Bool) (t : Nat) (st : Wst), st.out.length ≤ 65536 → (layJ j fl t st).out.length ≤ 65536
  | .text s, fl, t, st, h => by
    rw [layJ]
    split
    · exact h
    · unfold putM; split
      · simpa using ‹_›
      · exact h
  | .line s i f, fl, t, st, h => by
    rw [layJ]
    split
    · exact h
    · split
      · unfold putM; split
        · simpa using ‹_›
        · exact h
      · unfold wrapM; split
        · rename_i h2; simp only [List.length_append, List.length_cons, List.length_replicate]; omega
        · exact h
  | .hard i, fl, t, st, h => by
    rw [layJ]
    split
    · exact h
    · unfold wrapM; split
      · rename_i h2; simp only [List.length_append, List.length_cons, List.length_replicate]; omega
      · exact h
  | .many ks g, fl, t, st, h => by
    rw [layJ]
    split
    · exact h
    · split
      · split
        · exact lay_sizeL ks _ _ _ h
        · exact lay_sizeL ks _ _ _ h
      · exact lay_sizeL ks _ _ _ h
theorem lay_sizeL : ∀ (js : List Jb) (fl : Bool) (t : Nat) (st : Wst), st.out.length ≤ 65536 → (layL js fl t st).out.length ≤ 65536
  | [], fl, t, st, h => by rw [layL]; exact h
  | x :: xs, fl, t, st, h => by rw [layL]; exact lay_sizeL xs _ _ _ (lay_size x _ _ _ h)
end
theorem rend_size {d : Dc} {w : Int} {s : ByteArray} (h : rendM d w = (s, 0)) : s.size ≤ 65536 := by
  obtain ⟨_, _, rfl⟩ := rend_ok h
  rw [outM_lay]
  exact lay_size (jobOf d 0) false 0 (st0 w) (by simp [st0])

end Go.Proofs.Ytcmhlfnmjpmjhaa
