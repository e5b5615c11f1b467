/- The walk of the scanner's next: a set's text. -/
import Derived.Test.YtfngkdcjifdliaaNxt
set_option linter.unusedVariables false
set_option linter.unusedSimpArgs false
set_option linter.unnecessarySimpa false
set_option linter.deprecated false
namespace Go.Proofs.Ytfngkdcjifdliaa
open Go.RowKit

set_option maxHeartbeats 8000000 in
set_option maxRecDepth 100000 in
theorem next_set (B sb : Nat) (text : ByteArray) (p : Nat) (l : List (Nat × Nat)) (rest : List UInt8) (line top : Int) (ws : List Wd) (v : Value) (w : World) (h : ScW B sb text (p : Int) line top ws v w) (hB : B ≤ w.heap.size) (hl : ∀ r ∈ l, okR r)
    (ht : text.data.toList.drop p = 91 :: (l.flatMap itT ++ 93 :: rest)) (hs : text.size ≤ 65536) (htop : 0 ≤ top ∧ top ≤ p) (hw : ws.length ≤ 100000) (q : Nat) (hq : q = p + (l.flatMap itT).length + 2) :
    Calls Try.prog 10 #[.pointer (some ⟨sb, 0, none⟩)] w (NxP B sb text q line top ws (Wd.mk 5 (text.extract p q) none 0 0 (setOf l zS) 0 (p : Int) line ((p : Int) - top + 1)) w) := by
  have hqs : p ≤ q ∧ q ≤ text.size := by
    have := congrArg List.length ht
    rw [List.length_drop, size_len text, List.length_cons, List.length_append, List.length_cons] at this
    omega
  obtain ⟨hps, hc⟩ := get_drop ht
  have hpi : (p : Int) < (text.size : Int) := by omega
  have HBR := hide (fun W => bracketed_ok text p l rest W hl ht hs)
  rw [← hq] at HBR
  have HQS := hide hqs
  clear hq hqs
  have HG := hide (fun W => great_any 91 W)
  have HSM := hide (fun W => small_any 91 W)
  have HDG := hide (fun W => digit_any 91 W)
  have HH := hide h
  have e0 := h.b.cell 0
  have e1 := h.b.cell 1
  have el := h.b.lt
  clear h ht hl
  go_enter Try.func10, Try.ntmps10
  go_upto_region 1 with fail
  go_quiet (fail)
  go_upto_region 21 with (first | (go_at_call 17; refine (HG.out _).mono ?_; rintro e w' ⟨rfl, rfl⟩) | (go_at_call 18; refine (HSM.out _).mono ?_; rintro e w' ⟨rfl, rfl⟩) | (go_at_call 20; refine (HDG.out _).mono ?_; rintro e w' ⟨rfl, rfl⟩))
  clear e0 e1 el
  obtain ⟨h, hh⟩ : ∃ h, w.heap.size = h := ⟨_, rfl⟩
  have hs1 : ScW B sb text (p : Int) line top ws v ((w.alloc (.cells #[.int .i64 0, .int .i64 0] 30)).drewN nq) := (HH.out.below ((Below.refl w.heap.size w).alloc (Nat.le_refl _) _)).drewN _
  have hf1 : Blk ((w.alloc (.cells #[.int .i64 0, .int .i64 0] 30)).drewN nq) h #[.int .i64 0, .int .i64 0] 30 := hh ▸ Blk.new w _ _
  have hw1 : Wrote (ScP B sb) w ((w.alloc (.cells #[.int .i64 0, .int .i64 0] 30)).drewN nq) := (Wrote.alloc _ _ _).trans (Wrote.draw _ _ _)
  have HHH := hide hh
  rw [hh]
  clear hh
  generalize (w.alloc (.cells #[.int .i64 0, .int .i64 0] 30)).drewN nq = w1 at hs1 hf1 hw1 ⊢
  have e0 := hs1.b.cell 0
  have e1 := hs1.b.cell 1
  have el := hs1.b.lt
  have HS1 := hide hs1
  have HF1 := hide hf1
  have HW1 := hide hw1
  clear hs1 hf1 hw1
  go_cut [10, 11, 12] from 108 to 120 (fun v10 v11 v12 wc => ∃ k10 k12, v10 = .pointer (some ⟨k10, 0, none⟩) ∧ v12 = .pointer (some ⟨k12, 0, none⟩) ∧ v11 = .int .i64 (q : Int) ∧ Hid (EndR w1 wc k10 k12 (setOf l zS)))
  case first =>
    have hw1d := hide (show Below w1.heap.size w1 w1.drew from (Below.refl _ _).drew)
    go_region_held3 (fun W => Hid (Below w1.heap.size w1 W) ∧ W.cell? ⟨sb, 0, none⟩ = some (.string text) ∧ W.cell? ⟨sb, 1, none⟩ = some (.int .i64 (p : Int)))
      (first | exact NB.all HS1 hw1d | (refine NB.all HS1 ?_; repeat' (with_reducible (first | exact (Hid.out (And.left (by assumption))) | exact hw1d.out | exact Below.refl _ _ | refine Below.drew ?_ | refine NB.alloc ?_ _ | refine NB.set ?_ (by omega) | refine NB.below ?_ (by assumption)))))
      (first | (go_at_call 23; refine (HBR.out _).mono ?_; rintro e w5 ⟨rfl, hb5⟩; have hz5 := hb5.size; simp only [World.size_alloc, World.size_drew] at hz5; first
        | (obtain ⟨q1, q2, hbw⟩ := NB.two hb5; have a0 := q1.cell 0; have a1 := q1.cell 1; have a2 := q1.cell 2; have a3 := q1.cell 3; have b0 := q1.free 0; have b1 := q1.free 1; have b2 := q1.free 2; have b3 := q1.free 3; have n1 := q1.lt; have n3 := Nat.ne_of_lt n1; have n4 := Nat.ne_of_gt n1; have c0 := q2.cell 0; have c1 := q2.cell 1; have d0 := q2.free 0; have d1 := q2.free 1; have m1 := q2.lt; have m3 := Nat.ne_of_lt m1; have m4 := Nat.ne_of_gt m1)
        | (obtain ⟨q1, q2, hbw⟩ := NB.two' hb5; have a0 := q1.cell 0; have a1 := q1.cell 1; have a2 := q1.cell 2; have a3 := q1.cell 3; have b0 := q1.free 0; have b1 := q1.free 1; have b2 := q1.free 2; have b3 := q1.free 3; have n1 := q1.lt; have n3 := Nat.ne_of_lt n1; have n4 := Nat.ne_of_gt n1; have c0 := q2.cell 0; have c1 := q2.cell 1; have d0 := q2.free 0; have d1 := q2.free 1; have m1 := q2.lt; have m3 := Nat.ne_of_lt m1; have m4 := Nat.ne_of_gt m1)
        | (obtain ⟨q1, hbw⟩ := NB.one hb5; have a0 := q1.cell 0; have a1 := q1.cell 1; have a2 := q1.cell 2; have a3 := q1.cell 3; have b0 := q1.free 0; have b1 := q1.free 1; have b2 := q1.free 2; have b3 := q1.free 3; have n1 := q1.lt; have n3 := Nat.ne_of_lt n1; have n4 := Nat.ne_of_gt n1)
        | (obtain ⟨q2, hbw⟩ := NB.one' hb5; have c0 := q2.cell 0; have c1 := q2.cell 1; have d0 := q2.free 0; have d1 := q2.free 1; have m1 := q2.lt; have m3 := Nat.ne_of_lt m1; have m4 := Nat.ne_of_gt m1)
        | (have hbw := NB.none hb5)))
    all_goals
      go_wp2_with fail
      go_meet
      refine ⟨_, _, rfl, rfl, rfl, hide ?_⟩
      with_reducible (first
        | exact EndR.l1 hbw
        | exact EndR.l2 hbw
        | exact EndR.l3 hbw (by omega) q1
        | exact EndR.l5 hbw (by omega) q2
        | exact EndR.l4 hbw (by omega) (by omega) (by omega) q1 q2)
  case rest =>
    obtain ⟨k10, k12, rfl, rfl, rfl, hc⟩ := hcut
    have hs2 := HS1.out.below hc.out.b
    have hf2 := HF1.out.below hc.out.b
    have HW2 := hide (HW1.out.trans (Wrote.of_below hc.out.b))
    have hn2 := HW1.out.size
    have hk10 := hc.out.s
    have hk12 := hc.out.f
    have HN := hide hn2
    have a0 : wc.cell? ⟨k10, 0, none⟩ = some (.int .u64 ((setOf l zS).w0 : Int)) := hk10.cell 0
    have a1 : wc.cell? ⟨k10, 1, none⟩ = some (.int .u64 ((setOf l zS).w1 : Int)) := hk10.cell 1
    have a2 : wc.cell? ⟨k10, 2, none⟩ = some (.int .u64 ((setOf l zS).w2 : Int)) := hk10.cell 2
    have a3 : wc.cell? ⟨k10, 3, none⟩ = some (.int .u64 ((setOf l zS).w3 : Int)) := hk10.cell 3
    have b1 := hk12.cell 1
    have HP := hide (put_any B sb text p q line top ws v 5 0 ⟨#[]⟩ none 0 0 (setOf l zS) wc hs2 (Nat.le_trans hB (Nat.le_trans hn2 hc.out.b.size)) HQS.out.1 HQS.out.2 (by omega) htop hw)
    have HF2 := hide hf2
    clear e0 e1 el hs2 hf2 hn2 hk10 hk12 hc
    go_wp2_with (go_at_call 11; refine HP.out.mono ?_; rintro e w' ⟨rfl, v', hp⟩; have hf3 := ScP.other hp.out.2 HF2.out; have HF3 := hide hf3; have g0 := hf3.cell 0; have g1 := hf3.cell 1; have x0 := hf3.free 0; have x1 := hf3.free 1; clear hf3)
    exact NxP.done HHH.out HF3.out (HW2.out.trans hp.out.2) hp.out.1
end Go.Proofs.Ytfngkdcjifdliaa
