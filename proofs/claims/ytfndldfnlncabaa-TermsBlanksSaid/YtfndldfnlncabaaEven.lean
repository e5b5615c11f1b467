/- The walk of the law's own function even. -/
import Derived.Test.YtfndldfnlncabaaWords
import Derived.Test.YtfndldfnlncabaaPad
import Derived.Deep.LoopGhost
import Derived.IntWalk
set_option linter.unusedVariables false
set_option linter.unusedSimpArgs false
set_option linter.unnecessarySimpa false
set_option linter.deprecated false
namespace Go.Proofs.Ytfndldfnlncabaa
open Go.RowKit

theorem lead_next (rv : List UInt8) (h : ∃ r, rv = 92 :: r) : lead rv = lead (rv.drop 1) + 1 := by
  obtain ⟨r, rfl⟩ := h
  simp [lead]
theorem lead_stop {c : UInt8} {r : List UInt8} (h : c ≠ 92) : lead (c :: r) = 0 := by simp [lead, h]

theorem even_eq {n m : Nat} (h : n = m) : ((n : Int) % 2 == 0) = decide (m % 2 = 0) := by
  subst h
  rw [Bool.eq_iff_iff]
  simp
  omega
/-- What stands ahead of a place, backwards. -/
def ahead (s : ByteArray) (i : Nat) : List UInt8 := (s.data.toList.take i).reverse
theorem ahead_succ (s : ByteArray) (i : Nat) (h : i < s.size) : ahead s (i + 1) = s[i]'h :: ahead s i := by
  unfold ahead
  rw [List.take_succ_eq_append_getElem (by simpa using h)]
  simp
  rfl
theorem ahead_drop (s : ByteArray) (i n : Nat) (h : n ≤ i) : (ahead s i).drop n = ahead s (i - n) ∨ s.size < i := by
  by_cases hs : s.size < i
  · exact Or.inr hs
  · left
    unfold ahead
    rw [List.drop_reverse]
    congr 1
    rw [List.take_take, List.length_take]
    congr 1
    simp
    omega

set_option maxHeartbeats 1000000 in
theorem even_any (s : ByteArray) (i : Nat) (hi : i ≤ s.size) (hs : s.size ≤ 140737488351232) (w : World) :
    Calls Try.prog 19 #[.string s, .int .i64 (i : Int)] w fun e w' => e = .returned (.bool (decide (lead (ahead s i) % 2 = 0))) ∧ w = w' := by
  obtain ⟨m, hm⟩ : ∃ m, lead (ahead s i) = m := ⟨_, rfl⟩
  rw [hm]
  have HM := hide hm
  clear hm
  go_enter Try.func19, Try.ntmps19
  go_wp2_with fail
  go_loopg [5] (i + 1) (fun u v5 wr => ∃ n : Nat, Hid (u = i + 1 - n) ∧ Hid (n ≤ i) ∧ v5 = .int .i64 (n : Int) ∧ Hid (n + lead (ahead s (i - n)) = m) ∧ wr = w)
  case atStart => exact ⟨0, rfl, Nat.zero_le _, rfl, by have := HM.out; exact (Nat.zero_add _).trans this, rfl⟩
  case round =>
    obtain ⟨n, hu, hn, rfl, hl, rfl⟩ := hrel
    have hni := hn.out
    have w1 : IntKind.i64.wrap ((i : Int) - 1) = (i : Int) - 1 := IntWalk.i64_in _ (by omega)
    have w2 : IntKind.i64.wrap ((i : Int) - 1 - (n : Int)) = (i : Int) - 1 - (n : Int) := IntWalk.i64_in _ (by omega)
    by_cases h0 : n < i
    · have h0i : (0 : Int) ≤ (i : Int) - 1 - (n : Int) := by omega
      have hp : i - 1 - n < s.size := by omega
      have hpe : ((i : Int) - 1 - (n : Int)).toNat = i - 1 - n := by omega
      have hlt : (i : Int) - 1 - (n : Int) < (s.size : Int) := by omega
      have hA := ahead_succ s (i - 1 - n) hp
      rw [show i - 1 - n + 1 = i - n by omega] at hA
      obtain ⟨c, hc⟩ : ∃ c, s[i - 1 - n]'hp = c := ⟨_, rfl⟩
      rw [hc] at hA
      by_cases hq : c = 92
      · subst hq
        have HL := hide (show n + 1 + lead (ahead s (i - (n + 1))) = m by
          have h := hl.out
          rw [hA] at h
          rw [show i - (n + 1) = i - 1 - n by omega]
          simp only [lead, if_true] at h
          omega)
        clear hA
        go_wp2_with fail
        go_roundg (i + 1 - (n + 1))
        case measure => rw [hu.out]; omega
        case rel => exact ⟨n + 1, rfl, hide (by omega), rfl, HL, rfl⟩
      · have hq1 : ((c.toNat : Int) == 92) = false := byte_ne hq
        have HL := hide (show n = m by
          have h := hl.out
          rw [hA, lead_stop hq] at h
          omega)
        clear hA
        go_wp2_with fail
        go_ret
        exact ⟨ret_bool (even_eq HL.out), rfl⟩
    · have hne : n = i := by omega
      subst hne
      have h0i : ¬ (0 : Int) ≤ (n : Int) - 1 - (n : Int) := by omega
      have HL := hide (show n = m by
        have h := hl.out
        have e : lead (ahead s (n - n)) = 0 := by simp [ahead, lead]
        rw [e] at h
        omega)
      go_wp2_with fail
      go_ret
      exact ⟨ret_bool (even_eq HL.out), rfl⟩
end Go.Proofs.Ytfndldfnlncabaa
