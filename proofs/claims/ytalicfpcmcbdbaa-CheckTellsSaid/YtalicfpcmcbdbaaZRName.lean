/- The walks of the reference's classes of letters, runs of letters, and names. -/
import Derived.Test.YtalicfpcmcbdbaaZWords
import Derived.Deep.LoopGhost
set_option linter.unusedVariables false
set_option linter.unusedSimpArgs false
set_option linter.unnecessarySimpa false
set_option linter.deprecated false
namespace Go.Proofs.Ytalicfpcmcbdbaa
open Go.RowKit

def rclass (r : Int) : Int := if greatI r then 1 else if smallI r then 2 else if digitI r then 3 else 0

set_option maxHeartbeats 400000 in
theorem class_any (r : Int) (w : World) : Calls Try.prog 106 #[.int .u8 r] w fun e w' => e = .returned (.int .i64 (rclass r)) ∧ w = w' := by
  unfold rclass greatI smallI digitI
  go_enter Try.func106, Try.ntmps106
  go_wp2
  all_goals (go_ret; refine ⟨?_, rfl⟩; simp_all; try omega)

theorem rclass_alnum (c : UInt8) : (0 < rclass (c.toNat : Int)) ↔ alnumB c = true := by
  unfold rclass alnumB
  rw [greatI_nat, smallI_nat, digitI_nat]
  cases greatB c.toNat <;> cases smallB c.toNat <;> cases digitB c.toNat <;> simp
theorem rclass_great (c : UInt8) : (rclass (c.toNat : Int) == 1) = greatI (c.toNat : Int) := by
  unfold rclass
  cases greatI (c.toNat : Int) <;> cases smallI (c.toNat : Int) <;> cases digitI (c.toNat : Int) <;> rfl

set_option maxHeartbeats 1000000 in
theorem far_any (s : ByteArray) (w : World) (hs : s.size ≤ 140737488351232) : Calls Try.prog 107 #[.string s, .int .i64 0] w fun e w' => e = .returned (.int .i64 (runLen s.data.toList)) ∧ w = w' := by
  go_enter Try.func107, Try.ntmps107
  go_wp2_with fail
  go_loopg [1] s.size (fun n v1 wr => ∃ p : Nat, Hid (n = s.size - p) ∧ v1 = .int .i64 (p : Int) ∧ wr = w ∧ Hid (runAt s p))
  case atStart => exact ⟨0, rfl, rfl, rfl, Nat.zero_le _, fun _ _ h => absurd h (Nat.not_lt_zero _)⟩
  case round =>
    obtain ⟨p, hn, rfl, rfl, hrun⟩ := hrel
    have hple := hrun.out.1
    by_cases hp : p < s.size
    · have hpi : (p : Int) < (s.size : Int) := by omega
      have HAL := hide (rclass_alnum (s[p]'hp))
      by_cases ha : alnumB (s[p]'hp) = true
      · have hpos : 0 < rclass ((s[p]'hp).toNat : Int) := HAL.out.2 ha
        have HR := hide (runAt_next hrun.out hp ha)
        clear ha
        go_wp2_with (go_at_call 106; refine (class_any _ _).mono ?_; rintro e w' ⟨rfl, rfl⟩)
        go_roundg (s.size - (p + 1))
        case measure => rw [hn.out]; omega
        case rel => exact ⟨p + 1, rfl, rfl, rfl, HR⟩
      · have hpos : ¬ 0 < rclass ((s[p]'hp).toNat : Int) := fun h => ha (HAL.out.1 h)
        have HR := hide (runAt_stop hrun.out hp (by simpa using ha))
        clear ha
        go_wp2_with (go_at_call 106; refine (class_any _ _).mono ?_; rintro e w' ⟨rfl, rfl⟩)
        go_ret
        exact ⟨ret_int (by rw [HR.out]), rfl⟩
    · have hpi : ¬ (p : Int) < (s.size : Int) := by omega
      have HR := hide (runAt_end hrun.out hp)
      have hpe : p = s.size := by omega
      subst hpe
      go_wp2_with fail
      go_ret
      exact ⟨ret_int (by rw [HR.out]), rfl⟩

set_option maxHeartbeats 1000000 in
theorem risName_any (s : ByteArray) (w : World) (hs : s.size ≤ 140737488351232) :
    Calls Try.prog 102 #[.string s] w fun e w' => e = .returned (.bool (isNameL s.data.toList)) ∧ w = w' := by
  by_cases h0 : s.size = 0
  · have hN := hide (isNameL_nil s h0)
    have h1 : ¬ (0 : Int) < (s.size : Int) := by omega
    go_enter Try.func102, Try.ntmps102
    go_wp2_with fail
    go_ret
    exact ⟨ret_bool (by rw [hN.out]), rfl⟩
  · have hp : 0 < s.size := by omega
    have hN := hide (isNameL_of s hp)
    have h1 : (0 : Int) < (s.size : Int) := by omega
    have HF := hide (far_any s w hs)
    have HG := hide (rclass_great (s[0]'hp))
    by_cases h2 : s.size ≤ 32
    · have h2i : (s.size : Int) ≤ 32 := by omega
      cases hg : greatI ((s[0]'hp).toNat : Int)
      · have hc : (rclass ((s[0]'hp).toNat : Int) == 1) = false := by rw [HG.out, hg]
        go_enter Try.func102, Try.ntmps102
        go_wp2_with (go_at_call 106; refine (class_any _ _).mono ?_; rintro e w' ⟨rfl, rfl⟩)
        go_ret
        exact ⟨ret_bool (by rw [hN.out, hg]; simp), rfl⟩
      · have hc : (rclass ((s[0]'hp).toNat : Int) == 1) = true := by rw [HG.out, hg]
        go_enter Try.func102, Try.ntmps102
        go_wp2_with (first | (go_at_call 106; refine (class_any _ _).mono ?_; rintro e w' ⟨rfl, rfl⟩) | (go_at_call 107; refine (HF.out).mono ?_; rintro e w' ⟨rfl, rfl⟩))
        go_ret
        refine ⟨ret_bool ?_, rfl⟩
        rw [hN.out, hg, decide_eq_true h2]
        simp
        rw [Bool.eq_iff_iff]
        simp
    · have h2i : ¬ (s.size : Int) ≤ 32 := by omega
      go_enter Try.func102, Try.ntmps102
      go_wp2_with fail
      go_ret
      exact ⟨ret_bool (by rw [hN.out, decide_eq_false h2]; simp), rfl⟩
end Go.Proofs.Ytalicfpcmcbdbaa
