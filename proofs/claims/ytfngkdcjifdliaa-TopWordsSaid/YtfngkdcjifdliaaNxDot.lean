/- The walk of the scanner's next: a point. -/
import Derived.Test.YtfngkdcjifdliaaNxt
import Derived.Test.YtfngkdcjifdliaaShelf
set_option linter.unusedVariables false
set_option linter.unusedSimpArgs false
set_option linter.unnecessarySimpa false
set_option linter.deprecated false
namespace Go.Proofs.Ytfngkdcjifdliaa
open Go.RowKit

set_option maxHeartbeats 8000000 in
set_option maxRecDepth 100000 in
theorem next_dot (B sb : Nat) (text : ByteArray) (p : Nat)  (rest : List UInt8) (line top : Int) (ws : List Wd) (v : Value) (w : World) (h : ScW B sb text (p : Int) line top ws v w) (hB : B ≤ w.heap.size)
    (ht : text.data.toList.drop p = 46 :: rest) (hs : text.size ≤ 65536) (htop : 0 ≤ top ∧ top ≤ p) (hw : ws.length ≤ 100000) :
    Calls Try.prog 10 #[.pointer (some ⟨sb, 0, none⟩)] w (NxP B sb text (p + 1) line top ws ⟨6, text.extract p (p + 1), none, 0, 0, zS, 0, p, line, p - top + 1⟩ w) := by
  obtain ⟨hps, hc⟩ := get_drop ht
  have hpi : (p : Int) < (text.size : Int) := by omega
  obtain ⟨q, hq⟩ : ∃ q, p + 1 = q := ⟨_, rfl⟩
  rw [hq]
  have HQ := hide (show (p : Int) + 1 = (q : Int) by omega)
  have HQS := hide (show p ≤ q ∧ q ≤ text.size by omega)
  have HPB := hide (show (p : Int) ≤ 99999 by omega)
  clear hq
  have HIX := hide (fun W => (show Calls Try.prog 24 #[.string ⟨#[61, 124, 46, 59, 62, 63, 42, 43, 123, 125, 40, 41, 95, 47, 44, 45]⟩, .int .u8 46] W fun e w' => e = .returned (.int .i64 2) ∧ w' = W from Try.strings_IndexByte ⟨#[61, 124, 46, 59, 62, 63, 42, 43, 123, 125, 40, 41, 95, 47, 44, 45]⟩ 46 W))
  have HG := hide (fun W => great_any 46 W)
  have HSM := hide (fun W => small_any 46 W)
  have HDG := hide (fun W => digit_any 46 W)
  have HH := hide h
  have e0 := h.b.cell 0
  have e1 := h.b.cell 1
  have el := h.b.lt
  clear h ht
  go_enter Try.func10, Try.ntmps10
  go_upto_region 1 with fail
  go_quiet (fail)
  go_upto_region 25 with (first | (go_at_call 17; refine (HG.out _).mono ?_; rintro e w' ⟨rfl, rfl⟩) | (go_at_call 18; refine (HSM.out _).mono ?_; rintro e w' ⟨rfl, rfl⟩) | (go_at_call 20; refine (HDG.out _).mono ?_; rintro e w' ⟨rfl, rfl⟩))
  clear e0 e1 el
  obtain ⟨h, hh⟩ : ∃ h, w.heap.size = h := ⟨_, rfl⟩
  have hs1 : ScW B sb text (p : Int) line top ws v ((w.alloc (.cells #[.int .i64 0, .int .i64 0] 30)).drewN nq) := (HH.out.below ((Below.refl w.heap.size w).alloc (Nat.le_refl _) _)).drewN _
  have hf1 : Blk ((w.alloc (.cells #[.int .i64 0, .int .i64 0] 30)).drewN nq) h #[.int .i64 0, .int .i64 0] 30 := hh ▸ Blk.new w _ _
  have hw1 : Wrote (ScP B sb) w ((w.alloc (.cells #[.int .i64 0, .int .i64 0] 30)).drewN nq) := (Wrote.alloc _ _ _).trans (Wrote.draw _ _ _)
  have HHH := hide hh
  rw [hh]
  clear hh
  generalize (w.alloc (.cells #[.int .i64 0, .int .i64 0] 30)).drewN nq = w1 at hs1 hf1 hw1 ⊢
  have e1 := hs1.b.cell 1
  have el := hs1.b.lt
  have HP := hide (show Calls Try.prog 11 #[.pointer (some ⟨sb, 0, none⟩), .agg #[.int .i64 6, .string ⟨#[]⟩, .slice none 0 0, .int .u64 0, .int .u64 0, .int .u64 0, .int .u64 0, .int .i64 0, .int .i64 0, .int .i64 0, .int .i64 0], .int .i64 (q : Int)] w1 _ from put_any B sb text p q line top ws v 6 0 ⟨#[]⟩ none 0 0 zS w1 hs1 (Nat.le_trans hB hw1.size) HQS.out.1 HQS.out.2 (by omega) htop hw)
  have HF2 := hide hf1
  have HW2 := hide hw1
  clear hs1 hf1 hw1
  have hpb := HPB.out
  have hpc : (p : Int) + 1 ≤ 100000 := by omega
  go_wp2_with (first | (go_at_call 24; refine (HIX.out _).mono ?_; rintro e w' ⟨rfl, rfl⟩) | (go_at_call 11; rw [HQ.out]; refine HP.out.mono ?_; rintro e w' ⟨rfl, v', hp⟩; have hf3 := ScP.other hp.out.2 HF2.out; have HF3 := hide hf3; have g0 := hf3.cell 0; have g1 := hf3.cell 1; have x0 := hf3.free 0; have x1 := hf3.free 1; clear hf3))
  exact NxP.done HHH.out HF3.out (HW2.out.trans hp.out.2) hp.out.1
end Go.Proofs.Ytfngkdcjifdliaa
