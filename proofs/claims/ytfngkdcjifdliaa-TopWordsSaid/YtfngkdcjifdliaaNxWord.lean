/- The walk of the scanner's next: letters and digits. -/
import Derived.Test.YtfngkdcjifdliaaNxt
import Derived.StillTailTactics
set_option linter.unusedVariables false
set_option linter.unusedSimpArgs false
set_option linter.unnecessarySimpa false
set_option linter.deprecated false
namespace Go.Proofs.Ytfngkdcjifdliaa
open Go.RowKit

set_option maxHeartbeats 8000000 in
set_option maxRecDepth 100000 in
theorem next_great (B sb : Nat) (text : ByteArray) (p : Nat) (c : UInt8) (rest : List UInt8) (line top : Int) (ws : List Wd) (v : Value) (w : World) (h : ScW B sb text (p : Int) line top ws v w) (hB : B ≤ w.heap.size)
    (ht : text.data.toList.drop p = c :: rest) (hg : greatI (c.toNat : Int) = true) (hs : text.size ≤ 65536) (htop : 0 ≤ top ∧ top ≤ p) (hw : ws.length ≤ 100000) (n q : Nat) (hn : runLen (c :: rest) = n) (hn2 : n ≤ 32) (hq : q = p + n) :
    Calls Try.prog 10 #[.pointer (some ⟨sb, 0, none⟩)] w (NxP B sb text q line top ws ⟨1, text.extract p q, none, 0, 0, zS, 0, p, line, p - top + 1⟩ w) := by
  obtain ⟨hps, hc⟩ := get_drop ht
  have hpi : (p : Int) < (text.size : Int) := by omega
  have hrl := runLen_le (c :: rest)
  rw [hn] at hrl
  have hlen := congrArg List.length ht
  rw [List.length_drop, size_len text] at hlen
  have HQ := hide (show (p : Int) + (n : Int) = (q : Int) by omega)
  have HQS := hide (show p ≤ q ∧ q ≤ text.size by omega)
  have HRUN := hide (fun W => run_any (text.extract p text.size) W)
  rw [Lib.extract_to_end, ht, hn] at HRUN
  have hni : (n : Int) ≤ 32 := by omega
  clear hq hn hrl hlen
  have hw32 := wrap32_byte c
  have HG := hide (fun W => great_any (c.toNat : Int) W)
  have HSM := hide (fun W => small_any (c.toNat : Int) W)
  have HDG := hide (fun W => digit_any (c.toNat : Int) W)
  have HH := hide h
  have e0 := h.b.cell 0
  have e1 := h.b.cell 1
  have el := h.b.lt
  clear h ht
  go_enter Try.func10, Try.ntmps10
  go_upto_region 1 with fail
  go_quiet (fail)
  go_upto_region 4 with (first | (go_at_call 17; refine (HG.out _).mono ?_; rintro e w' ⟨rfl, rfl⟩) | (go_at_call 18; refine (HSM.out _).mono ?_; rintro e w' ⟨rfl, rfl⟩) | (go_at_call 20; refine (HDG.out _).mono ?_; rintro e w' ⟨rfl, rfl⟩))
  clear e0 e1 el
  obtain ⟨h, hh⟩ : ∃ h, w.heap.size = h := ⟨_, rfl⟩
  have hs1 : ScW B sb text (p : Int) line top ws v ((w.alloc (.cells #[.int .i64 0, .int .i64 0] 30)).drewN nq) := (HH.out.below ((Below.refl w.heap.size w).alloc (Nat.le_refl _) _)).drewN _
  have hf1 : Blk ((w.alloc (.cells #[.int .i64 0, .int .i64 0] 30)).drewN nq) h #[.int .i64 0, .int .i64 0] 30 := hh ▸ Blk.new w _ _
  have hw1 : Wrote (ScP B sb) w ((w.alloc (.cells #[.int .i64 0, .int .i64 0] 30)).drewN nq) := (Wrote.alloc _ _ _).trans (Wrote.draw _ _ _)
  have HHH := hide hh
  rw [hh]
  clear hh
  generalize (w.alloc (.cells #[.int .i64 0, .int .i64 0] 30)).drewN nq = w1 at hs1 hf1 hw1 ⊢
  have e0 := hs1.b.cell 0
  have e1 := hs1.b.cell 1
  have el := hs1.b.lt
  have HS1 := hide hs1
  have HF1 := hide hf1
  have HW1 := hide hw1
  clear hs1 hf1 hw1
  have hpi2 : (p : Int) ≤ (text.size : Int) := by omega
  have hps2 : p ≤ text.size := by omega
  go_still_tail 9, (by kernel_rfl)
  change wpList _ _ _ _ _ w1.drew
  go_wp2_with fail
  refine (HRUN.out _).mono ?_
  rintro e w2 ⟨rfl, hb2⟩
  have hb2 := NB.none hb2
  have hs2 := HS1.out.below hb2
  have hf2 := HF1.out.below hb2
  have HW2 := hide (HW1.out.trans (Wrote.of_below hb2))
  have hn2 := HW1.out.size
  have HN := hide hn2
  have HP := hide (show Calls Try.prog 11 #[.pointer (some ⟨sb, 0, none⟩), .agg #[.int .i64 1, .string ⟨#[]⟩, .slice none 0 0, .int .u64 0, .int .u64 0, .int .u64 0, .int .u64 0, .int .i64 0, .int .i64 0, .int .i64 0, .int .i64 0], .int .i64 (q : Int)] w2 _ from put_any B sb text p q line top ws v 1 0 ⟨#[]⟩ none 0 0 zS w2 hs2 (Nat.le_trans hB (Nat.le_trans hn2 hb2.size)) HQS.out.1 HQS.out.2 (by omega) htop hw)
  have HF2 := hide hf2
  clear e0 e1 el
  have e1 := hs2.b.cell 1
  have el := hs2.b.lt
  clear hs2 hf2 hn2 hb2
  go_wp2_with (first | (go_at_call 17; refine (HG.out _).mono ?_; rintro e w' ⟨rfl, rfl⟩) | (go_at_call 11; rw [HQ.out]; refine HP.out.mono ?_; rintro e w' ⟨rfl, v', hp⟩; have hf3 := ScP.other hp.out.2 HF2.out; have HF3 := hide hf3; have g0 := hf3.cell 0; have g1 := hf3.cell 1; have x0 := hf3.free 0; have x1 := hf3.free 1; clear hf3))
  exact NxP.done HHH.out HF3.out (HW2.out.trans hp.out.2) hp.out.1
set_option maxHeartbeats 8000000 in
set_option maxRecDepth 100000 in
theorem next_small (B sb : Nat) (text : ByteArray) (p : Nat) (c : UInt8) (rest : List UInt8) (line top : Int) (ws : List Wd) (v : Value) (w : World) (h : ScW B sb text (p : Int) line top ws v w) (hB : B ≤ w.heap.size)
    (ht : text.data.toList.drop p = c :: rest) (hg : greatI (c.toNat : Int) = false) (hsm : smallI (c.toNat : Int) = true) (hs : text.size ≤ 65536) (htop : 0 ≤ top ∧ top ≤ p) (hw : ws.length ≤ 100000) (n q : Nat) (hn : runLen (c :: rest) = n) (hn2 : n ≤ 32) (hq : q = p + n) :
    Calls Try.prog 10 #[.pointer (some ⟨sb, 0, none⟩)] w (NxP B sb text q line top ws ⟨2, text.extract p q, none, 0, 0, zS, 0, p, line, p - top + 1⟩ w) := by
  obtain ⟨hps, hc⟩ := get_drop ht
  have hpi : (p : Int) < (text.size : Int) := by omega
  have hrl := runLen_le (c :: rest)
  rw [hn] at hrl
  have hlen := congrArg List.length ht
  rw [List.length_drop, size_len text] at hlen
  have HQ := hide (show (p : Int) + (n : Int) = (q : Int) by omega)
  have HQS := hide (show p ≤ q ∧ q ≤ text.size by omega)
  have HRUN := hide (fun W => run_any (text.extract p text.size) W)
  rw [Lib.extract_to_end, ht, hn] at HRUN
  have hni : (n : Int) ≤ 32 := by omega
  clear hq hn hrl hlen
  have hw32 := wrap32_byte c
  have HG := hide (fun W => great_any (c.toNat : Int) W)
  have HSM := hide (fun W => small_any (c.toNat : Int) W)
  have HDG := hide (fun W => digit_any (c.toNat : Int) W)
  have HH := hide h
  have e0 := h.b.cell 0
  have e1 := h.b.cell 1
  have el := h.b.lt
  clear h ht
  go_enter Try.func10, Try.ntmps10
  go_upto_region 1 with fail
  go_quiet (fail)
  go_upto_region 4 with (first | (go_at_call 17; refine (HG.out _).mono ?_; rintro e w' ⟨rfl, rfl⟩) | (go_at_call 18; refine (HSM.out _).mono ?_; rintro e w' ⟨rfl, rfl⟩) | (go_at_call 20; refine (HDG.out _).mono ?_; rintro e w' ⟨rfl, rfl⟩))
  clear e0 e1 el
  obtain ⟨h, hh⟩ : ∃ h, w.heap.size = h := ⟨_, rfl⟩
  have hs1 : ScW B sb text (p : Int) line top ws v ((w.alloc (.cells #[.int .i64 0, .int .i64 0] 30)).drewN nq) := (HH.out.below ((Below.refl w.heap.size w).alloc (Nat.le_refl _) _)).drewN _
  have hf1 : Blk ((w.alloc (.cells #[.int .i64 0, .int .i64 0] 30)).drewN nq) h #[.int .i64 0, .int .i64 0] 30 := hh ▸ Blk.new w _ _
  have hw1 : Wrote (ScP B sb) w ((w.alloc (.cells #[.int .i64 0, .int .i64 0] 30)).drewN nq) := (Wrote.alloc _ _ _).trans (Wrote.draw _ _ _)
  have HHH := hide hh
  rw [hh]
  clear hh
  generalize (w.alloc (.cells #[.int .i64 0, .int .i64 0] 30)).drewN nq = w1 at hs1 hf1 hw1 ⊢
  have e0 := hs1.b.cell 0
  have e1 := hs1.b.cell 1
  have el := hs1.b.lt
  have HS1 := hide hs1
  have HF1 := hide hf1
  have HW1 := hide hw1
  clear hs1 hf1 hw1
  have hpi2 : (p : Int) ≤ (text.size : Int) := by omega
  have hps2 : p ≤ text.size := by omega
  go_still_tail 9, (by kernel_rfl)
  change wpList _ _ _ _ _ w1.drew
  go_wp2_with fail
  refine (HRUN.out _).mono ?_
  rintro e w2 ⟨rfl, hb2⟩
  have hb2 := NB.none hb2
  have hs2 := HS1.out.below hb2
  have hf2 := HF1.out.below hb2
  have HW2 := hide (HW1.out.trans (Wrote.of_below hb2))
  have hn2 := HW1.out.size
  have HN := hide hn2
  have HP := hide (show Calls Try.prog 11 #[.pointer (some ⟨sb, 0, none⟩), .agg #[.int .i64 2, .string ⟨#[]⟩, .slice none 0 0, .int .u64 0, .int .u64 0, .int .u64 0, .int .u64 0, .int .i64 0, .int .i64 0, .int .i64 0, .int .i64 0], .int .i64 (q : Int)] w2 _ from put_any B sb text p q line top ws v 2 0 ⟨#[]⟩ none 0 0 zS w2 hs2 (Nat.le_trans hB (Nat.le_trans hn2 hb2.size)) HQS.out.1 HQS.out.2 (by omega) htop hw)
  have HF2 := hide hf2
  clear e0 e1 el
  have e1 := hs2.b.cell 1
  have el := hs2.b.lt
  clear hs2 hf2 hn2 hb2
  go_wp2_with (first | (go_at_call 17; refine (HG.out _).mono ?_; rintro e w' ⟨rfl, rfl⟩) | (go_at_call 11; rw [HQ.out]; refine HP.out.mono ?_; rintro e w' ⟨rfl, v', hp⟩; have hf3 := ScP.other hp.out.2 HF2.out; have HF3 := hide hf3; have g0 := hf3.cell 0; have g1 := hf3.cell 1; have x0 := hf3.free 0; have x1 := hf3.free 1; clear hf3))
  exact NxP.done HHH.out HF3.out (HW2.out.trans hp.out.2) hp.out.1
end Go.Proofs.Ytfngkdcjifdliaa
