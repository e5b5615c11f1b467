/- The walk of the scanner's skip, where only blanks stand ahead of a word. -/
import Derived.Test.YtfngkdcjifdliaaScn
set_option linter.unusedVariables false
set_option linter.unusedSimpArgs false
set_option linter.unnecessarySimpa false
set_option linter.deprecated false
namespace Go.Proofs.Ytfngkdcjifdliaa
open Go.RowKit

theorem ScW.drewN {B sb : Nat} {text : ByteArray} {p line top : Int} {ws : List Wd} {v : Value} {w : World} (h : ScW B sb text p line top ws v w) (n : Nat) : ScW B sb text p line top ws v (w.drewN n) := ⟨h.b, own_below h.own (below_drewN (Below.refl _ _) n)⟩
theorem ScW.below {B sb : Nat} {text : ByteArray} {p line top : Int} {ws : List Wd} {v : Value} {w w' : World} (h : ScW B sb text p line top ws v w) (hb : Below w.heap.size w w') : ScW B sb text p line top ws v w' := ⟨h.b.below hb, own_below h.own hb⟩
theorem get_drop {text : ByteArray} {p : Nat} {c : UInt8} {l : List UInt8} (h : text.data.toList.drop p = c :: l) : ∃ hp : p < text.size, text[p]'hp = c := by
  have hlen := congrArg List.length h
  rw [List.length_drop, size_len text, List.length_cons] at hlen
  refine ⟨by omega, ?_⟩
  rw [byte_at rfl]
  have h2 : text.data.toList[p]'(by rw [size_len text]; omega) = (text.data.toList.drop p)[0]'(by rw [List.length_drop, size_len text]; omega) := by rw [List.getElem_drop]; rfl
  rw [h2]
  simp only [h]
  rfl
theorem byteNe {c : UInt8} {k : Nat} (h : c ≠ UInt8.ofNat k) (hk : k < 256) : ((c.toNat : Int) == (k : Int)) = false := by
  rw [beq_eq_false_iff_ne]
  intro e
  apply h
  apply UInt8.toNat_inj.1
  rw [UInt8.toNat_ofNat']
  omega

theorem SkD.step {B sb q q' : Nat} {text : ByteArray} {line top : Int} {ws : List Wd} {v : Value} {w wr : World} (h : ScW B sb text (q : Int) line top ws v wr ∧ Wrote (ScP B sb) w wr) (hq : q' = q + 1) (n : Nat) :
    ScW B sb text (q' : Int) line top ws v ((wr.drewN n).setCell ⟨sb, 1, none⟩ (.int .i64 ((q : Int) + 1))) ∧ Wrote (ScP B sb) w ((wr.drewN n).setCell ⟨sb, 1, none⟩ (.int .i64 ((q : Int) + 1))) := by
  subst hq
  have h1 := (h.1.drewN n).at_ ((q : Int) + 1)
  exact ⟨h1.1, (h.2.trans (Wrote.draw _ _ _)).trans h1.2⟩

set_option maxHeartbeats 4000000 in
set_option maxRecDepth 100000 in
theorem skip_sp (B sb : Nat) (text : ByteArray) (p k : Nat) (rest : List UInt8) (line top : Int) (ws : List Wd) (v : Value) (w : World) (h : ScW B sb text (p : Int) line top ws v w)
    (ht : text.data.toList.drop p = List.replicate k 32 ++ rest) (hp : p ≤ text.size) (hr : ∀ c l, rest = c :: l → c ≠ 10 ∧ c ≠ 32 ∧ c ≠ 9 ∧ c ≠ 13 ∧ c ≠ 35) (hs : text.size ≤ 100000) :
    Calls Try.prog 9 #[.pointer (some ⟨sb, 0, none⟩)] w fun r w' => r = .returned (.tuple #[]) ∧ Hid (ScW B sb text ((p + k : Nat) : Int) line top ws v w' ∧ Wrote (ScP B sb) w w') := by
  have HT := hide ht
  have HR := hide hr
  have HH := hide h
  have hlen := congrArg List.length ht
  rw [List.length_drop, size_len text, List.length_append, List.length_replicate] at hlen
  have HLN := hide hlen
  have hsi : (text.size : Int) ≤ 100000 := by omega
  clear ht hr h hlen
  go_enter Try.func9, Try.ntmps9
  go_wp2_with fail
  go_loopg [] k (fun m wr => ∃ j, Hid (m = k - j) ∧ Hid (j ≤ k ∧ ScW B sb text ((p + j : Nat) : Int) line top ws v wr ∧ Wrote (ScP B sb) w wr))
  case atStart => exact ⟨0, hide rfl, hide ⟨Nat.zero_le _, HH.out, Wrote.refl _ _⟩⟩
  case round =>
    obtain ⟨j, hu, hr⟩ := hrel
    obtain ⟨q, hq⟩ : ∃ q, p + j = q := ⟨_, rfl⟩
    have HQ := hide hq
    have hr2 := hr.out.2
    rw [hq] at hr2
    have e0 := hr2.1.b.cell 0
    have e1 := hr2.1.b.cell 1
    have el := hr2.1.b.lt
    have f1 := hr2.1.b.free 1
    have HW := hide hr2
    have hjk := hr.out.1
    have hdr : text.data.toList.drop q = List.replicate (k - j) 32 ++ rest := by
      rw [← hq, ← List.drop_drop, HT.out, List.drop_append, List.drop_replicate, List.length_replicate, show j - k = 0 by omega]
      rfl
    clear hr hr2 hq
    by_cases hlt : j < k
    · obtain ⟨hqs, hc⟩ := get_drop (c := 32) (l := List.replicate (k - j - 1) 32 ++ rest) (by rw [hdr, show k - j = (k - j - 1) + 1 by omega, List.replicate_succ]; rfl)
      have hqi : (q : Int) < (text.size : Int) := by omega
      have hqd : decide (q < text.size) = true := decide_eq_true hqs
      have hq2 : (q : Int) + 1 ≤ 200000 := by omega
      clear hdr
      go_upto_region 0 with fail
      go_quiet (fail)
      go_upto_region 1 with fail
      go_quiet (fail)
      go_upto_region 11 with fail
      go_wp2_with fail
      go_roundg (k - (j + 1))
      case measure => rw [hu.out]; omega
      case rel => exact ⟨j + 1, hide rfl, hide ⟨hlt, SkD.step HW.out (by have := HQ.out; omega) _⟩⟩
    · obtain rfl : j = k := by omega
      have hd2 : text.data.toList.drop q = rest := by rw [hdr]; simp
      cases rest with
      | nil =>
        have hqn : ¬ q < text.size := by
          have := congrArg List.length hd2
          rw [List.length_drop, size_len text] at this
          simp at this
          omega
        have hqd : decide (q < text.size) = false := decide_eq_false hqn
        clear hdr hd2
        go_upto_region 0 with fail
        go_quiet (fail)
        go_wp2_with fail
        go_end0
        rw [HQ.out]
        exact ⟨rfl, hide ⟨HW.out.1.drewN _, HW.out.2.trans (Wrote.draw _ _ _)⟩⟩
      | cons c l =>
        obtain ⟨k1, k2, k3, k4, k5⟩ := HR.out c l rfl
        obtain ⟨hqs, hc⟩ := get_drop hd2
        have hqi : (q : Int) < (text.size : Int) := by omega
        have hqd : decide (q < text.size) = true := decide_eq_true hqs
        have n1 : ((c.toNat : Int) == 10) = false := byteNe (k := 10) k1 (by decide)
        have n2 : ((c.toNat : Int) == 32) = false := byteNe (k := 32) k2 (by decide)
        have n3 : ((c.toNat : Int) == 9) = false := byteNe (k := 9) k3 (by decide)
        have n4 : ((c.toNat : Int) == 13) = false := byteNe (k := 13) k4 (by decide)
        have n5 : ((c.toNat : Int) == 35) = false := byteNe (k := 35) k5 (by decide)
        clear hdr hd2 k1 k2 k3 k4 k5
        go_upto_region 0 with fail
        go_quiet (fail)
        go_upto_region 1 with fail
        go_quiet (fail)
        go_wp2_with fail
        try simp only [Exit.inBlock, Exit.then]
        refine bodyPost_ret (results_none rfl _ _ _) rfl ?_
        rw [HQ.out]
        exact ⟨rfl, hide ⟨HW.out.1.drewN _, HW.out.2.trans (Wrote.draw _ _ _)⟩⟩
end Go.Proofs.Ytfngkdcjifdliaa
