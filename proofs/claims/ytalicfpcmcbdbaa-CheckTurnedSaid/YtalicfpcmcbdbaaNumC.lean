/- What Check says of the fixed definition. -/
import Derived.Test.YtalicfpcmcbdbaaNum
set_option linter.unusedVariables false
set_option linter.unusedSimpArgs false
set_option linter.unnecessarySimpa false
set_option linter.deprecated false
namespace Go.Proofs.Ytalicfpcmcbdbaa
open Go.RowKit

def bE : ByteArray := ⟨#[69]⟩
def bN : ByteArray := ⟨#[78]⟩
theorem nn0 : formL (numD bN) = okL := by decide +kernel
theorem nn1 : mixedL (numD bN) = okL := by decide +kernel
theorem nn2 : endsL (numD bN) = okL := by decide +kernel
theorem nn3 : undefL (numD bN) = okL := by decide +kernel
theorem nn4 : firstG 44 (kindB (numD bN)) Pd.sort (numD bN).prods = okL := by decide +kernel
theorem nn5 : consLk (numD bN) = okL := by decide +kernel
theorem nn6 : firstG 46 bracketB Pd.sort (numD bN).prods = okL := by decide +kernel
theorem nn7 : firstG 2 (longB (numD bN)) Pd.sort (numD bN).prods = okL := by decide +kernel
theorem nn8 : firstG 47 nullB Pd.sort (numD bN).prods = okL := by decide +kernel
theorem nn9 : prioL (numD bN) = okL := by decide +kernel
theorem nn10 : followL (numD bN) = okL := by decide +kernel
theorem nn11 : boxL (numD bN) = okL := by decide +kernel
theorem ne0 : formL (numD bE) = okL := by decide +kernel
theorem ne1 : mixedL (numD bE) = okL := by decide +kernel
theorem ne2 : endsL (numD bE) = okL := by decide +kernel
theorem ne3 : undefL (numD bE) = okL := by decide +kernel
theorem ne4 : firstG 44 (kindB (numD bE)) Pd.sort (numD bE).prods = okL := by decide +kernel
theorem ne5 : consLk (numD bE) = okL := by decide +kernel
theorem ne6 : firstG 46 bracketB Pd.sort (numD bE).prods = okL := by decide +kernel
theorem ne7 : firstG 2 (longB (numD bE)) Pd.sort (numD bE).prods = okL := by decide +kernel
theorem ne8 : firstG 47 nullB Pd.sort (numD bE).prods = okL := by decide +kernel
theorem ne9 : prioL (numD bE) = okL := by decide +kernel
theorem ne10 : followL (numD bE) = okL := by decide +kernel
theorem ne11 : boxL (numD bE) = okL := by decide +kernel
theorem num_sorts : sortsL (numD bN).prods = [bE, bN] := by decide +kernel
theorem num_sortsE : sortsL (numD bE).prods = [bE, bN] := by decide +kernel
theorem num_cons : consIdx (numD bN).prods bN = 1 := by decide +kernel
theorem num_bare : ∀ p ∈ (numD bN).prods, ∀ n ∈ bareL p, p.sort = bE ∧ n = bN := by decide +kernel
theorem num_reach {s t : ByteArray} (h : Reach (numD bN).prods bareL s t) : s = bE ∧ t = bN := by
  induction h with
  | one hp hs hn => have := num_bare _ hp _ hn; exact ⟨hs ▸ this.1, this.2⟩
  | more h hp hs hn ih => exact ⟨ih.1, (num_bare _ hp _ hn).2⟩
theorem num_cycle : cycleL (numD bN) = okL := by
  unfold cycleL
  rw [num_sorts]
  have h0 : ¬ Reach (numD bN).prods bareL bE bE := fun h => absurd (num_reach h).2 (by decide)
  have h1 : ¬ Reach (numD bN).prods bareL bN bN := fun h => absurd (num_reach h).1 (by decide)
  simp [firstL, h0, h1]
theorem numE_cycle : cycleL (numD bE) = (48, bE) := by
  unfold cycleL
  rw [num_sortsE]
  have h0 : Reach (numD bE).prods bareL bE bE := .one (p := ⟨false, ⟨#[69]⟩, ⟨#[78]⟩, false, [syOf bE]⟩) (by decide +kernel) rfl (by rw [show bareL (⟨false, ⟨#[69]⟩, ⟨#[78]⟩, false, [syOf bE]⟩ : Pd) = [bE] from by decide +kernel]; simp)
  simp [firstL, h0]
theorem num_check : checkL (numD bN) = okL := by
  unfold checkL looksL
  rw [nn0, nn1, nn2, nn3, nn4, nn5, nn6, nn7, nn8, nn9, nn10, nn11, num_cycle, show rejectL (numD bN) = okL from rfl]
  decide +kernel
theorem numE_check : checkL (numD bE) = (48, bE) := by
  unfold checkL looksL
  rw [ne0, ne1, ne2, ne3, ne4, ne5, ne6, ne7, ne8, ne9, ne10, ne11, numE_cycle, show rejectL (numD bE) = okL from rfl]
  decide +kernel
theorem num_small1 (n : ByteArray) (h : (usedL (numD n)).length ≤ 99000) : Small (numD n) := by
  refine ⟨by simp [numD, numPs], ?_, h, (fun ch h => nomatch h), by simp [numD]⟩
  intro p hp
  simp only [numD, numPs, List.mem_cons, List.not_mem_nil, or_false] at hp
  rcases hp with rfl | rfl | rfl <;> simp
theorem num_small : Small (numD bN) := num_small1 _ (by decide +kernel)
theorem numE_small : Small (numD bE) := num_small1 _ (by decide +kernel)
end Go.Proofs.Ytalicfpcmcbdbaa
