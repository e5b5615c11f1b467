/- A set's text is its stretches' texts. -/
import Derived.Test.YtfngkdcjifdliaaBrack
set_option linter.unusedVariables false
set_option linter.unusedSimpArgs false
set_option linter.unnecessarySimpa false
set_option linter.deprecated false
namespace Go.Proofs.Ytfngkdcjifdliaa

theorem runT_its (r : Nat × Nat) (h : okR r) : runT r = (itemsR r).flatMap itT := by
  obtain ⟨a, b⟩ := r
  have hab : a ≤ b := h.1
  unfold runT itemsR
  by_cases h1 : b = a + 1
  · subst h1
    simp [itT]
  · rw [if_neg h1]
    by_cases h2 : a = b
    · subst h2
      simp [itT]
    · have k1 : a + 1 < b := by omega
      have k2 : a < b := by omega
      simp [itT, h2, k1, k2]
theorem setT_its (l : List (Nat × Nat)) (h : ∀ r ∈ l, okR r) : setT l = 91 :: ((items l).flatMap itT ++ [93]) := by
  unfold setT
  have e : l.flatMap runT = (items l).flatMap itT := by
    induction l with
    | nil => rfl
    | cons r rs ih =>
      have e2 : items (r :: rs) = itemsR r ++ items rs := by unfold items; rw [List.flatMap_cons]
      rw [List.flatMap_cons, e2, List.flatMap_append, ih (fun q hq => h q (List.mem_cons_of_mem _ hq)), runT_its r (h r (List.mem_cons_self ..))]
  rw [e]
  rfl
theorem setT_runs (s : St) : setT (runsOf s) = 91 :: ((items (runsOf s)).flatMap itT ++ [93]) := setT_its _ (runs_all s 256 (Nat.le_refl _)).1
theorem runs_items (s : St) : ∀ r ∈ items (runsOf s), okR r := items_ok (runs_all s 256 (Nat.le_refl _)).1
end Go.Proofs.Ytfngkdcjifdliaa
