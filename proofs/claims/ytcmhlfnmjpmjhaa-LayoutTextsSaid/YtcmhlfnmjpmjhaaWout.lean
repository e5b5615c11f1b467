/- The walk of without. -/
import Derived.Test.YtcmhlfnmjpmjhaaPTexts
import Derived.Test.YtcmhlfnmjpmjhaaOwn
set_option linter.unusedVariables false
set_option linter.unusedSimpArgs false
set_option linter.unnecessarySimpa false
set_option linter.deprecated false
namespace Go.Proofs.Ytcmhlfnmjpmjhaa
open Go.RowKit

structure WoRel (w : World) (s : ByteArray) (k : Nat) (v : Value) (wr : World) : Prop where
  buf : ∃ acc, Buf w v acc wr ∧ acc ++ wo (s.data.toList.drop k) = wo s.data.toList ∧ acc.length ≤ k
  le : k ≤ s.size
theorem wo_yes {c : UInt8} (l : List UInt8) (h1 : c ≠ 10) (h2 : c ≠ 32) : wo (c :: l) = c :: wo l := by
  unfold wo
  rw [List.filter_cons_of_pos]
  simp [h1, h2]
theorem wo_no {c : UInt8} (l : List UInt8) (h : c = 10 ∨ c = 32) : wo (c :: l) = wo l := by
  unfold wo
  rw [List.filter_cons_of_neg]
  rcases h with rfl | rfl <;> simp
theorem WoRel.yes {w : World} {s : ByteArray} {k : Nat} {v' : Value} {w2 : World} {acc : List UInt8} (hk : k < s.size) (h1 : s[k]'hk ≠ 10) (h2 : s[k]'hk ≠ 32) (hp : acc ++ wo (s.data.toList.drop k) = wo s.data.toList) (hl : acc.length ≤ k) (hb : Buf w v' (acc ++ [s[k]'hk]) w2) : WoRel w s (k + 1) v' w2 := by
  refine ⟨⟨_, hb, ?_, by simp; omega⟩, hk⟩
  rw [drop_byte s k hk, wo_yes _ h1 h2] at hp
  rw [← hp]
  simp
theorem WoRel.no {w : World} {s : ByteArray} {k : Nat} {v' : Value} {w2 : World} {acc : List UInt8} (hk : k < s.size) (h : s[k]'hk = 10 ∨ s[k]'hk = 32) (hp : acc ++ wo (s.data.toList.drop k) = wo s.data.toList) (hl : acc.length ≤ k) (hb : Buf w v' acc w2) : WoRel w s (k + 1) v' w2 := by
  refine ⟨⟨_, hb, ?_, by omega⟩, hk⟩
  rw [drop_byte s k hk, wo_no _ h] at hp
  exact hp

set_option maxHeartbeats 2000000 in
set_option maxRecDepth 100000 in
theorem without_any (s : ByteArray) (w : World) (hs : s.size ≤ 1000000000) : Calls Try.prog 17 #[.string s] w fun e w' => e = .returned (.string ⟨(wo s.data.toList).toArray⟩) ∧ Below w.heap.size w w' := by
  obtain ⟨i0, hi, hz0, hz1, hz2⟩ := info_parts info5
  have HR0 := hide (show WoRel w s 0 (.slice none 0 0) w from ⟨⟨[], Buf.start w, rfl, Nat.le_refl _⟩, Nat.zero_le _⟩)
  go_enter Try.func17, Try.ntmps17
  go_wp2_with fail
  go_loopg [3, 4] s.size (fun m v3 v4 wr => ∃ k : Nat, Hid (m = s.size - k) ∧ v4 = .int .i64 (k : Int) ∧ Hid (WoRel w s k v3 wr))
  case atStart => exact ⟨0, rfl, rfl, HR0⟩
  case round =>
    obtain ⟨k, hm, rfl, hr⟩ := hrel
    obtain ⟨acc, hb, hp, hl⟩ := hr.out.buf
    have hle := hr.out.le
    have HQ := hide hb
    by_cases hk : k < s.size
    · have hki : (k : Int) < (s.size : Int) := by omega
      have HP := hide hp
      clear hb hp
      obtain ⟨c, hc⟩ : ∃ c, s[k]'hk = c := ⟨_, rfl⟩
      have HC := hide hc
      by_cases k1 : c = 10
      · subst k1
        go_wp2_with fail
        go_roundg (s.size - (k + 1))
        case measure => rw [hm.out]; omega
        case rel => exact ⟨k + 1, rfl, rfl, hide (WoRel.no hk (Or.inl HC.out) HP.out hl HQ.out)⟩
      · have m1 : ((c.toNat : Int) == 10) = false := byte_ne (x := 10) k1
        have n1 : ((c.toNat : Int) != 10) = true := by rw [bne, m1]; rfl
        by_cases k2 : c = 32
        · subst k2
          go_wp2_with fail
          go_roundg (s.size - (k + 1))
          case measure => rw [hm.out]; omega
          case rel => exact ⟨k + 1, rfl, rfl, hide (WoRel.no hk (Or.inr HC.out) HP.out hl HQ.out)⟩
        · have m2 : ((c.toNat : Int) == 32) = false := byte_ne (x := 32) k2
          have n2 : ((c.toNat : Int) != 32) = true := by rw [bne, m2]; rfl
          go_wp2_with (at_builtin; refine wpList_append_own _ rfl _ _ 36 rfl w.heap.size 5 i0 (.int .u8 0) 1 1 Try.underlying36 hi hz0 hz1 hz2 rfl (by decide) _ _ _ rfl (HQ.out.own.alloc _) ⟨wr.heap.size, 0, none⟩ 1 1 [_] rfl rfl (cell_one_new _ _ _) ?c2 ?c3 ?c4 ?c5 ?_)
          case c2 => first | (intro x hx; simp at hx; subst hx; rfl) | rfl
          case c3 => unfold maxLen; (try simp only [List.length_append, List.length_cons, List.length_nil]); omega
          case c4 => (try simp only [List.length_append, List.length_cons, List.length_nil]); omega
          case c5 => have := HQ.out.below.size; simp; omega
          intro v' w2 hown' hgrow _
          have HQ2 := hide (HQ.out.push1 c hown' hgrow (by simp) rfl)
          clear hown' hgrow
          go_wp2_with fail
          go_roundg (s.size - (k + 1))
          case measure => rw [hm.out]; omega
          case rel => exact ⟨k + 1, rfl, rfl, hide (WoRel.yes hk (by rw [HC.out]; exact k1) (by rw [HC.out]; exact k2) HP.out hl (by rw [HC.out]; exact HQ2.out))⟩
    · obtain rfl : k = s.size := by omega
      have hki : ¬ (s.size : Int) < (s.size : Int) := by omega
      have hdr : s.data.toList.drop s.size = [] := List.drop_eq_nil_of_le (by rw [size_len]; omega)
      rw [hdr, show wo [] = [] from rfl, List.append_nil] at hp
      subst hp
      obtain ⟨a, cap, rfl, _⟩ := hb.shape
      have hcv := hb.str.2
      have HB := hide hb.below
      obtain ⟨m2, hm2⟩ : ∃ m, (wo s.data.toList).length = m := ⟨_, rfl⟩
      rw [hm2] at hcv ⊢
      clear hb HQ hr hl
      go_wp2_with fail
      go_ret
      exact ⟨rfl, HB.out⟩
end Go.Proofs.Ytcmhlfnmjpmjhaa
