/- A range over a map from strings to numbers. -/
import Derived.Test.YtalicfpcmcbdbaaZMapF
import Derived.Maps.RangeWalk
set_option linter.unusedVariables false
set_option linter.unusedSimpArgs false
set_option linter.unnecessarySimpa false
set_option linter.deprecated false
namespace Go.Proofs.Ytalicfpcmcbdbaa
open Go.RowKit

/-- What reads as a key of the strings' type is a string. -/
theorem keyOf_str_inv {key : Value} {kl : Lit} (h : keyOf Try.prog 9 key = some kl) : ∃ s : ByteArray, key = .string s := by
  cases key <;> simp [keyOf, Try.underlying9, mapKey] at h
  exact ⟨_, rfl⟩
theorem keyOf_str_lit {s : ByteArray} {kl : Lit} (h : keyOf Try.prog 9 (.string s) = some kl) : kl = .string s.data.toList := by
  simp [keyOf, Try.underlying9, mapKey] at h
  simp [h]
end Go.Proofs.Ytalicfpcmcbdbaa
