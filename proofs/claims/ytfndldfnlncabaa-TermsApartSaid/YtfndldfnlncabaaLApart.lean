/- The law TermsApart, walked. -/
import Derived.Test.YtfndldfnlncabaaVol
set_option linter.unusedVariables false
set_option linter.unusedSimpArgs false
set_option linter.unnecessarySimpa false
set_option linter.deprecated false
namespace Go.Proofs.Ytfndldfnlncabaa
open Go.RowKit

set_option maxHeartbeats 4000000 in
set_option maxRecDepth 100000 in
theorem law_apart (T U : Tm) (v u : Value) (w : World) (hT : RT w T v) (hU : RT w U u) : Calls Try.prog 7 #[v, u] w fun e w' => e = .returned (.bool true) ∧ Below w.heap.size w w' := by
  obtain ⟨a1, c1, a2, c2, rfl, _, _, _, _⟩ := hT.open
  obtain ⟨b1, d1, b2, d2, rfl, _, _, _, _⟩ := hU.open
  have HA := hide (fun W => alive_any W)
  have HT := hide (fun W (h : Below w.heap.size w W) => RT.below h hT)
  have HU := hide (fun W (h : Below w.heap.size w W) => RT.below h hU)
  have HV1 := hide (fun W h => heavy_any T (.agg #[.int .i64 T.kind, .string T.cons, .slice a1 T.text.length c1, .slice a2 T.kids.length c2]) W h)
  have HV2 := hide (fun W h => heavy_any U (.agg #[.int .i64 U.kind, .string U.cons, .slice b1 U.text.length d1, .slice b2 U.kids.length d2]) W h)
  have hbA := Blk.new w #[.int .i64 T.kind, .string T.cons, .slice a1 T.text.length c1, .slice a2 T.kids.length c2] 25
  have HW := hide (two_boxes0 w (.cells #[.int .i64 T.kind, .string T.cons, .slice a1 T.text.length c1, .slice a2 T.kids.length c2] 25) (.cells #[.int .i64 U.kind, .string U.cons, .slice b1 U.text.length d1, .slice b2 U.kids.length d2] 25))
  have HB := hide (show Blk ((w.alloc (.cells #[.int .i64 T.kind, .string T.cons, .slice a1 T.text.length c1, .slice a2 T.kids.length c2] 25)).alloc (.cells #[.int .i64 U.kind, .string U.cons, .slice b1 U.text.length d1, .slice b2 U.kids.length d2] 25)) w.heap.size #[.int .i64 T.kind, .string T.cons, .slice a1 T.text.length c1, .slice a2 T.kids.length c2] 25 ∧ Blk ((w.alloc (.cells #[.int .i64 T.kind, .string T.cons, .slice a1 T.text.length c1, .slice a2 T.kids.length c2] 25)).alloc (.cells #[.int .i64 U.kind, .string U.cons, .slice b1 U.text.length d1, .slice b2 U.kids.length d2] 25)) (w.heap.size + 1) #[.int .i64 U.kind, .string U.cons, .slice b1 U.text.length d1, .slice b2 U.kids.length d2] 25 from by
    refine ⟨hbA.alloc _, ?_⟩
    have := Blk.new (w.alloc (.cells #[.int .i64 T.kind, .string T.cons, .slice a1 T.text.length c1, .slice a2 T.kids.length c2] 25)) #[.int .i64 U.kind, .string U.cons, .slice b1 U.text.length d1, .slice b2 U.kids.length d2] 25
    rw [World.size_alloc] at this
    exact this)
  have HP1 := hide (fun W h k => Print_free T (.agg #[.int .i64 T.kind, .string T.cons, .slice a1 T.text.length c1, .slice a2 T.kids.length c2]) W h k)
  have HP2 := hide (fun W h k => Print_free U (.agg #[.int .i64 U.kind, .string U.cons, .slice b1 U.text.length d1, .slice b2 U.kids.length d2]) W h k)
  clear hT hU hbA
  cases h1 : heavyB T with
  | true =>
    rw [h1] at HV1
    go_enter Try.func7, Try.ntmps7
    go_wp2_with fail
    refine (HV1.out _ (HT.out _ HW.out)).mono ?_
    rintro e w1 ⟨rfl, hb1⟩
    have HB1 := hide (HW.out.trans (hb1.mono HW.out.size))
    clear hb1
    go_wp2_with fail
    refine (HA.out _).mono ?_
    rintro e w2 ⟨rfl, hb2⟩
    have HB2 := hide (HB1.out.trans (hb2.mono HB1.out.size))
    clear hb2
    go_wp2_with fail
    go_ret
    exact ⟨rfl, HB2.out⟩
  | false =>
    rw [h1] at HV1
    cases h2 : heavyB U with
    | true =>
      rw [h2] at HV2
      go_enter Try.func7, Try.ntmps7
      go_wp2_with fail
      refine (HV1.out _ (HT.out _ HW.out)).mono ?_
      rintro e w1 ⟨rfl, hb1⟩
      have HB1 := hide (HW.out.trans (hb1.mono HW.out.size))
      have hc := HB.out.2.below hb1
      have e0 := hc.cell 0
      have e1 := hc.cell 1
      have e2 := hc.cell 2
      have e3 := hc.cell 3
      have el := hc.lt
      clear hb1 hc
      go_wp2_with fail
      refine (HV2.out _ (HU.out _ HB1.out)).mono ?_
      rintro e w2 ⟨rfl, hb2⟩
      have HB2 := hide (HB1.out.trans (hb2.mono HB1.out.size))
      clear hb2
      go_wp2_with fail
      refine (HA.out _).mono ?_
      rintro e w3 ⟨rfl, hb3⟩
      have HB3 := hide (HB2.out.trans (hb3.mono HB2.out.size))
      clear hb3
      go_wp2_with fail
      go_ret
      exact ⟨rfl, HB3.out⟩
    | false =>
      rw [h2] at HV2
      have HN1 := hide h1
      have HN2 := hide h2
      go_enter Try.func7, Try.ntmps7
      go_wp2_with fail
      refine (HV1.out _ (HT.out _ HW.out)).mono ?_
      rintro e w1 ⟨rfl, hb1⟩
      have HB1 := hide (HW.out.trans (hb1.mono HW.out.size))
      have hc := HB.out.2.below hb1
      have hc0 := HB.out.1.below hb1
      have e0 := hc.cell 0
      have e1 := hc.cell 1
      have e2 := hc.cell 2
      have e3 := hc.cell 3
      have el := hc.lt
      clear hb1
      go_wp2_with fail
      refine (HV2.out _ (HU.out _ HB1.out)).mono ?_
      rintro e w2 ⟨rfl, hb2⟩
      have HB2 := hide (HB1.out.trans (hb2.mono HB1.out.size))
      have HCA := hide (hc0.below hb2)
      have HCB := hide (hc.below hb2)
      clear hb2 hc hc0 e0 e1 e2 e3 el
      obtain ⟨pt, ct, hpt⟩ : ∃ p c, printF T = (p, c) := ⟨_, _, rfl⟩
      obtain ⟨pu, cu, hpu⟩ : ∃ p c, printF U = (p, c) := ⟨_, _, rfl⟩
      have HPT := hide hpt
      have HPU := hide hpu
      clear hpt hpu h1 h2 HV1 HV2
      have q := HCA.out
      have e0 := q.cell 0
      have e1 := q.cell 1
      have e2 := q.cell 2
      have e3 := q.cell 3
      clear q
      go_wp2_with fail
      refine (HP1.out _ (HT.out _ HB2.out) HN1.out).mono ?_
      rintro e w3 ⟨he, hb3⟩
      rw [HPT.out] at he
      subst he
      have HB3 := hide (HB2.out.trans (hb3.mono HB2.out.size))
      have q := HCB.out.below hb3
      have e4 := q.cell 0
      have e5 := q.cell 1
      have e6 := q.cell 2
      have e7 := q.cell 3
      have HCA3 := hide (HCA.out.below hb3)
      have HCB3 := hide q
      clear hb3 q e0 e1 e2 e3
      go_wp2_with fail
      refine (HP2.out _ (HU.out _ HB3.out) HN2.out).mono ?_
      rintro e w4 ⟨he, hb4⟩
      rw [HPU.out] at he
      subst he
      have HB4 := hide (HB3.out.trans (hb4.mono HB3.out.size))
      have HCA4 := hide (HCA3.out.below hb4)
      have HCB4 := hide (HCB3.out.below hb4)
      clear hb4 e4 e5 e6 e7 HB1 HB2 HB3 HCA HCB HCA3 HCB3 HW HB
      have KT := printF_cases T
      have KU := printF_cases U
      rw [HPT.out] at KT
      rw [HPU.out] at KU
      clear HN1 HN2 HPT HPU HP1 HP2
      rcases KT with ⟨rT, _, tT, eT⟩ | ⟨dt, hdt, eT⟩
      · obtain ⟨rfl, rfl⟩ := Prod.mk.inj eT
        rcases KU with ⟨rU, _, tU, eU⟩ | ⟨du, hdu, eU⟩
        · obtain ⟨rfl, rfl⟩ := Prod.mk.inj eU
          have HEQ := hide (show ((wrT T [] == wrT U []) == sameB T U) = true by
            have h1 : wrT T [] = wrT U [] ↔ T = U := by
              refine ⟨fun h => ?_, fun h => by rw [h]⟩
              rw [tT, tU] at h
              exact txt_inj rT rU h
            cases hs : sameB T U with
            | true => rw [h1.2 ((sameB_eq T U).1 hs)]; simp
            | false =>
              have : wrT T [] ≠ wrT U [] := fun h => by rw [(sameB_eq T U).2 (h1.1 h)] at hs; cases hs
              simp [this])
          clear rT rU tT tU eT eU
          generalize wrT T [] = pt at *
          generalize wrT U [] = pu at *
          go_wp2_with fail
          refine (HA.out _).mono ?_
          rintro e w5 ⟨rfl, hb5⟩
          have HB5 := hide (HB4.out.trans (hb5.mono HB4.out.size))
          have q := HCA4.out.below hb5
          have e0 := q.cell 0
          have e1 := q.cell 1
          have e2 := q.cell 2
          have e3 := q.cell 3
          have q := HCB4.out.below hb5
          have e4 := q.cell 0
          have e5 := q.cell 1
          have e6 := q.cell 2
          have e7 := q.cell 3
          clear q hb5
          go_wp2_with fail
          refine (same_any T U _ _ _ (HT.out _ HB5.out) (HU.out _ HB5.out)).mono ?_
          rintro e w6 ⟨rfl, hb6⟩
          have HB6 := hide (HB5.out.trans (hb6.mono HB5.out.size))
          clear hb6 e0 e1 e2 e3 e4 e5 e6 e7
          go_wp2_with fail
          go_ret
          rw [HEQ.out]
          exact ⟨rfl, HB6.out⟩
        · obtain ⟨rfl, rfl⟩ := Prod.mk.inj eU
          have q1 : (cu == 0) = false := by rcases hdu with rfl | rfl <;> rfl
          have q2 : (cu != 0) = true := by rcases hdu with rfl | rfl <;> rfl
          clear hdu rT tT eT eU
          generalize wrT T [] = pt at *
          go_wp2_with fail
          refine (HA.out _).mono ?_
          rintro e w5 ⟨rfl, hb5⟩
          have HB5 := hide (HB4.out.trans (hb5.mono HB4.out.size))
          clear hb5
          go_wp2_with fail
          go_ret
          exact ⟨rfl, HB5.out⟩
      · obtain ⟨rfl, rfl⟩ := Prod.mk.inj eT
        have p1 : (ct == 0) = false := by rcases hdt with rfl | rfl <;> rfl
        have p2 : (ct != 0) = true := by rcases hdt with rfl | rfl <;> rfl
        clear hdt eT
        rcases KU with ⟨rU, _, tU, eU⟩ | ⟨du, hdu, eU⟩
        · obtain ⟨rfl, rfl⟩ := Prod.mk.inj eU
          clear rU tU eU
          generalize wrT U [] = pu at *
          go_wp2_with fail
          refine (HA.out _).mono ?_
          rintro e w5 ⟨rfl, hb5⟩
          have HB5 := hide (HB4.out.trans (hb5.mono HB4.out.size))
          clear hb5
          go_wp2_with fail
          go_ret
          exact ⟨rfl, HB5.out⟩
        · obtain ⟨rfl, rfl⟩ := Prod.mk.inj eU
          have q1 : (cu == 0) = false := by rcases hdu with rfl | rfl <;> rfl
          have q2 : (cu != 0) = true := by rcases hdu with rfl | rfl <;> rfl
          clear hdu eU
          go_wp2_with fail
          refine (HA.out _).mono ?_
          rintro e w5 ⟨rfl, hb5⟩
          have HB5 := hide (HB4.out.trans (hb5.mono HB4.out.size))
          clear hb5
          go_wp2_with fail
          go_ret
          exact ⟨rfl, HB5.out⟩
end Go.Proofs.Ytfndldfnlncabaa
