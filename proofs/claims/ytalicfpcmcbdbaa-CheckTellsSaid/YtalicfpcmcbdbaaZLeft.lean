/- The walk of left. -/
import Derived.Test.YtalicfpcmcbdbaaZData
set_option linter.unusedVariables false
set_option linter.unusedSimpArgs false
set_option linter.unnecessarySimpa false
set_option linter.deprecated false
namespace Go.Proofs.Ytalicfpcmcbdbaa
open Go.RowKit

def leftB (x : Sy) : Bool := decide (x.kind = 4) || decide (x.kind = 5)
set_option maxHeartbeats 4000000 in
set_option maxRecDepth 100000 in
theorem left_any (x : Sy) (w : World) : Calls Try.prog 72 #[.agg #[.int .i64 x.kind, .string x.text, .int .u64 (x.set.w0 : Int), .int .u64 (x.set.w1 : Int), .int .u64 (x.set.w2 : Int), .int .u64 (x.set.w3 : Int), .string x.name, .string x.sep]] w fun e w' => e = .returned (.bool (leftB x)) ∧ Below w.heap.size w w' := by
  obtain ⟨kd, t, s, n, p⟩ := x
  have HB := hide ((Below.refl w.heap.size w).alloc (Nat.le_refl _) (.cells #[.int .i64 kd, .string t, .int .u64 (s.w0 : Int), .int .u64 (s.w1 : Int), .int .u64 (s.w2 : Int), .int .u64 (s.w3 : Int), .string n, .string p] 61))
  by_cases h4 : kd = 4
  · subst h4
    go_enter Try.func72, Try.ntmps72
    go_wp2_with fail
    go_ret
    exact ⟨rfl, HB.out⟩
  · have n4 : (kd == 4) = false := by simpa using h4
    by_cases h5 : kd = 5
    · subst h5
      go_enter Try.func72, Try.ntmps72
      go_wp2_with fail
      go_ret
      exact ⟨rfl, HB.out⟩
    · have n5 : (kd == 5) = false := by simpa using h5
      have HL : Hid (leftB ⟨kd, t, s, n, p⟩ = false) := by show leftB _ = false; unfold leftB; simp [h4, h5]
      clear h4 h5
      go_enter Try.func72, Try.ntmps72
      go_wp2_with fail
      go_ret
      exact ⟨by rw [HL.out]; rfl, HB.out⟩
end Go.Proofs.Ytalicfpcmcbdbaa
