/- Does a name stand in a list: the walks. -/
import Derived.Test.YtalicfpcmcbdbaaReach
import Derived.Test.YtalicfpcmcbdbaaCons
import Derived.Test.YtalicfpcmcbdbaaSoUs
set_option linter.unusedVariables false
set_option linter.unusedSimpArgs false
set_option linter.unnecessarySimpa false
set_option linter.deprecated false
namespace Go.Proofs.Ytalicfpcmcbdbaa
open Go.RowKit

set_option maxHeartbeats 800000 in
set_option maxRecDepth 100000 in
theorem in_any (l : List ByteArray) (s : ByteArray) (a : Option Addr) (c : Nat) (w : World) (ha : Row StrAt 1 l a w) : Calls Try.prog 24 #[.slice a l.length c, .string s] w fun e w' => e = .returned (.bool (inB s l)) ∧ w = w' := by
  have HA := hide ha
  have hln := ha.1
  clear ha
  go_enter Try.func24, Try.ntmps24
  go_wp2_with fail
  go_loopg [5] l.length (fun u v5 wr => ∃ k : Nat, Hid (u = l.length - k) ∧ v5 = .int .i64 (k : Int) ∧ Hid (k ≤ l.length ∧ inB s (l.take k) = false ∧ w = wr))
  case atStart => exact ⟨0, hide rfl, rfl, hide ⟨Nat.zero_le _, by rw [List.take_zero]; rfl, rfl⟩⟩
  case round =>
    obtain ⟨k, hu, rfl, hh⟩ := hrel
    have hkl := hh.out.1
    obtain rfl := hh.out.2.2
    by_cases hlt : k < l.length
    · have hlti : (k : Int) < (l.length : Int) := by omega
      obtain ⟨b, o, rfl, hb, hat⟩ := HA.out.get hlt
      have hx := hat k hlt
      rw [Nat.mul_one] at hx
      have HT := hide (take_snoc l k hlt)
      have HM := hide (List.getElem_mem hlt)
      generalize l[k] = t at hx HT HM
      clear hat
      obtain ⟨hsh, f0⟩ := hx
      by_cases he : t = s
      · have h1 : (t.toList == s.toList) = true := by rw [he]; simp
        have h2 : t.toList = s.toList := by rw [he]
        have HF := hide (show inB s l = true from (inB_iff _ _).2 (he ▸ HM.out))
        clear he
        go_wp2_with fail
        go_ret
        exact ⟨by rw [HF.out]; rfl, rfl⟩
      · have h2 : ¬ t.toList = s.toList := fun h => he ((toList_eq_iff _ _).1 h)
        have h1 : (t.toList == s.toList) = false := beq_eq_false_iff_ne.2 h2
        have HE := hide he
        clear he
        go_wp2_with fail
        go_roundg (l.length - (k + 1))
        case measure => rw [hu.out]; omega
        case rel => exact ⟨k + 1, hide rfl, by go_num, hide ⟨hlt, by
          rw [HT.out]
          cases hi : inB s (l.take k ++ [t])
          · rfl
          · have h3 := (inB_iff _ _).1 hi
            rcases List.mem_append.1 h3 with h4 | h4
            · rw [(inB_iff _ _).2 h4] at hh; exact absurd hh.out.2.1 (by decide)
            · simp at h4; exact absurd h4.symm HE.out, rfl⟩⟩
    · have hlti : ¬ (k : Int) < (l.length : Int) := by omega
      have HF := hide (show inB s l = false by have := hh.out.2.1; rw [List.take_of_length_le (by omega)] at this; exact this)
      go_wp2_with fail
      go_ret
      exact ⟨by rw [HF.out]; rfl, rfl⟩
set_option maxHeartbeats 800000 in
set_option maxRecDepth 100000 in
theorem rIn_any (l : List ByteArray) (s : ByteArray) (a : Option Addr) (c : Nat) (w : World) (ha : Row StrAt 1 l a w) : Calls Try.prog 64 #[.slice a l.length c, .string s] w fun e w' => e = .returned (.bool (inB s l)) ∧ w = w' := by
  have HA := hide ha
  have hln := ha.1
  clear ha
  go_enter Try.func64, Try.ntmps64
  go_wp2_with fail
  go_loopg [5] l.length (fun u v5 wr => ∃ k : Nat, Hid (u = l.length - k) ∧ v5 = .int .i64 (k : Int) ∧ Hid (k ≤ l.length ∧ inB s (l.take k) = false ∧ w = wr))
  case atStart => exact ⟨0, hide rfl, rfl, hide ⟨Nat.zero_le _, by rw [List.take_zero]; rfl, rfl⟩⟩
  case round =>
    obtain ⟨k, hu, rfl, hh⟩ := hrel
    have hkl := hh.out.1
    obtain rfl := hh.out.2.2
    by_cases hlt : k < l.length
    · have hlti : (k : Int) < (l.length : Int) := by omega
      obtain ⟨b, o, rfl, hb, hat⟩ := HA.out.get hlt
      have hx := hat k hlt
      rw [Nat.mul_one] at hx
      have HT := hide (take_snoc l k hlt)
      have HM := hide (List.getElem_mem hlt)
      generalize l[k] = t at hx HT HM
      clear hat
      obtain ⟨hsh, f0⟩ := hx
      by_cases he : t = s
      · have h1 : (t.toList == s.toList) = true := by rw [he]; simp
        have h2 : t.toList = s.toList := by rw [he]
        have HF := hide (show inB s l = true from (inB_iff _ _).2 (he ▸ HM.out))
        clear he
        go_wp2_with fail
        go_ret
        exact ⟨by rw [HF.out]; rfl, rfl⟩
      · have h2 : ¬ t.toList = s.toList := fun h => he ((toList_eq_iff _ _).1 h)
        have h1 : (t.toList == s.toList) = false := beq_eq_false_iff_ne.2 h2
        have HE := hide he
        clear he
        go_wp2_with fail
        go_roundg (l.length - (k + 1))
        case measure => rw [hu.out]; omega
        case rel => exact ⟨k + 1, hide rfl, by go_num, hide ⟨hlt, by
          rw [HT.out]
          cases hi : inB s (l.take k ++ [t])
          · rfl
          · have h3 := (inB_iff _ _).1 hi
            rcases List.mem_append.1 h3 with h4 | h4
            · rw [(inB_iff _ _).2 h4] at hh; exact absurd hh.out.2.1 (by decide)
            · simp at h4; exact absurd h4.symm HE.out, rfl⟩⟩
    · have hlti : ¬ (k : Int) < (l.length : Int) := by omega
      have HF := hide (show inB s l = false by have := hh.out.2.1; rw [List.take_of_length_le (by omega)] at this; exact this)
      go_wp2_with fail
      go_ret
      exact ⟨by rw [HF.out]; rfl, rfl⟩
end Go.Proofs.Ytalicfpcmcbdbaa
