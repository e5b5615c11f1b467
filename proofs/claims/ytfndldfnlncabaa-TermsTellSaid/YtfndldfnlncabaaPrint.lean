/- The walk of terms.Print. -/
import Derived.Test.YtfndldfnlncabaaWrite
namespace Go.Proofs.Ytfndldfnlncabaa
set_option linter.unnecessarySimpa false
set_option linter.deprecated false
open Go.RowKit
set_option linter.unusedVariables false
set_option linter.unusedSimpArgs false

/-- A term's text and the error. -/
def printF (T : Tm) : List UInt8 × Int := if rightB 200 T = true then (if (wrT T []).length ≤ 65536 then (wrT T [], 0) else ([], 2)) else ([], 110)

theorem vol_le (T : Tm) (M : Nat) (h : vol T ≤ M) : ([] : List UInt8).length + vol T ≤ M := by simpa using h

set_option maxHeartbeats 1000000 in
theorem Print_any (T : Tm) (v : Value) (w : World) (ht : RT w T v) (hl : vol T ≤ 140737488330000) :
    Calls Try.prog 14 #[v] w fun e w' => e = .returned (.tuple #[.string ⟨(printF T).1.toArray⟩, .int .i64 (printF T).2]) ∧ Below w.heap.size w w' := by
  have hR := fun W (h : Below w.heap.size w W) => Right_any T v W (ht.below h)
  have hW := fun W b acc wr (h : Below w.heap.size w W) (hn : rightB 200 T = true) => write_any 140737488330000 (Nat.le_refl _) W b T 200 hn v acc wr (ht.below h)
  obtain ⟨a1, c1, a2, c2, rfl, hk, hc, hb, hr⟩ := ht.open
  have HR := hide hR
  have HW := hide hW
  have HV := hide (vol_le T _ hl)
  have hone := hide ((Below.refl _ w).alloc (Nat.le_refl _) (Obj.cells #[Value.int IntKind.i64 T.kind, Value.string T.cons, Value.slice a1 T.text.length c1, Value.slice a2 T.kids.length c2] 25))
  clear ht hR hW hk hc hb hr hl
  cases hq : rightB 200 T
  · have HF := hide (show printF T = ([], 110) by unfold printF; rw [hq]; rfl)
    go_enter Try.func14, Try.ntmps14
    go_wp2_with (go_at_call 18; ((with_reducible refine (HR.out _ hone.out).mono ?_); rintro e w1 ⟨rfl, hb⟩; have HB := hide (below_next hone.out hb); clear hb))
    go_ret2
    exact ⟨by rw [HF.out]; rfl, HB.out⟩
  · go_enter Try.func14, Try.ntmps14
    have hq' := hide hq
    go_wp2_with (go_at_call 18; ((with_reducible refine (HR.out _ hone.out).mono ?_); rintro e w1 ⟨rfl, hb⟩; have HB := hide (below_next hone.out hb); obtain ⟨hcl, hfr⟩ := bcell hb; have hz := hb.size; clear hb; have hz1 : w.heap.size < w1.heap.size := (by simp at hz; omega)))
    refine (HW.out w1 w1.heap.size [] _ HB.out hq'.out (BI.fresh w1) HV.out).mono ?_
    rintro e w2 ⟨rfl, hI2, ho2⟩
    have HI2 := hide hI2
    clear hI2 ho2
    obtain ⟨L, hL⟩ : ∃ L, (wrT T []).length = L := ⟨_, rfl⟩
    have HL := hide hL
    clear hL
    by_cases hroom : L ≤ 65536
    · have HF := hide (show printF T = (wrT T [], 0) by unfold printF; rw [hq, if_pos rfl, if_pos (by rw [HL.out]; exact hroom)])
      have hrI : ¬ (65536 : Int) < (L : Int) := by omega
      clear hroom
      go_wp2_with fail
      refine (HI2.out.len' L HL.out).mono ?_
      rintro e w' ⟨rfl, rfl⟩
      go_wp2_with fail
      refine HI2.out.string.mono ?_
      rintro e w3 ⟨rfl, hb3⟩
      go_wp2_with fail
      go_ret2
      exact ⟨by rw [HF.out]; rfl, below_next HB.out hb3⟩
    · have HF := hide (show printF T = ([], 2) by unfold printF; rw [hq, if_pos rfl, if_neg (by rw [HL.out]; exact hroom)])
      have hrI : (65536 : Int) < (L : Int) := by omega
      clear hroom
      go_wp2_with fail
      refine (HI2.out.len' L HL.out).mono ?_
      rintro e w' ⟨rfl, rfl⟩
      go_wp2_with fail
      go_ret2
      exact ⟨by rw [HF.out]; rfl, below_next HB.out HI2.out.2⟩
end Go.Proofs.Ytfndldfnlncabaa
