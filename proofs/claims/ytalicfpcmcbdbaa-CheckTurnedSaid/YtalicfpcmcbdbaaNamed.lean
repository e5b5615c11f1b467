/- The walk of named. -/
import Derived.Test.YtalicfpcmcbdbaaMapF
import Derived.Test.YtalicfpcmcbdbaaWords
set_option linter.unusedVariables false
set_option linter.unusedSimpArgs false
set_option linter.unnecessarySimpa false
set_option linter.deprecated false
namespace Go.Proofs.Ytalicfpcmcbdbaa
open Go.RowKit

/-- Is a string empty? -/
def emp (s : ByteArray) : Bool := s.toList.isEmpty
theorem emp_or (s : ByteArray) : (∃ b, Hid (emp s = true) ∧ s.toList.isEmpty = b ∧ b = true ∧ s.toList = []) ∨ (∃ b, Hid (emp s = false) ∧ s.toList.isEmpty = b ∧ b = false ∧ ¬ s.toList = []) := by
  cases h : s.toList.isEmpty with
  | true => exact Or.inl ⟨true, h, rfl, rfl, by simpa using h⟩
  | false => exact Or.inr ⟨false, h, rfl, rfl, by intro e; rw [e] at h; cases h⟩
def namedB (s : ByteArray) (e : Bool) : Bool := emp s && e || isNameL s.data.toList
set_option maxHeartbeats 4000000 in
set_option maxRecDepth 100000 in
theorem named_any (s : ByteArray) (e : Bool) (w : World) (hs : short s) : Calls Try.prog 84 #[.string s, .bool e] w fun r w' => r = .returned (.bool (namedB s e)) ∧ Below w.heap.size w w' := by
  have HN := hide (fun W => isName_any s W hs)
  rcases emp_or s with ⟨b, z, z1, z2, z3⟩ | ⟨b, z, z1, z2, z3⟩ <;> cases e
  all_goals
    go_enter Try.func84, Try.ntmps84
    go_wp2_with (go_at_call 99; refine (HN.out _).mono ?_; rintro e w' ⟨rfl, hb⟩)
    go_ret
    first
    | exact ⟨ret_bool (by unfold namedB; rw [z.out]; rfl), hb⟩
    | exact ⟨ret_bool (by unfold namedB; rw [z.out]; rfl), Below.refl _ _⟩
end Go.Proofs.Ytalicfpcmcbdbaa
