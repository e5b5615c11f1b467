/- The law TermsBack, walked. -/
import Derived.Test.YtfndldfnlncabaaVol
import Derived.Test.YtfndldfnlncabaaBPlain
set_option linter.unusedVariables false
set_option linter.unusedSimpArgs false
set_option linter.unnecessarySimpa false
set_option linter.deprecated false
namespace Go.Proofs.Ytfndldfnlncabaa
open Go.RowKit

/-- What Parse gives: a right term, or an error. -/
theorem parseR_cases (s : ByteArray) (h : s.size ≤ 9000) : (∃ Y, parseR s = (Y, 0, 0) ∧ rightB 200 Y = true ∧ (txt Y).length ≤ 36000) ∨ (∃ k c, parseR s = (zT, k, c) ∧ c ≠ 0 ∧ 0 ≤ k ∧ k ≤ (s.size : Int)) := by
  have hl : s.data.toList.length = s.size := by simp
  unfold parseR
  rw [if_neg (by omega)]
  rcases parseL_cases s.data.toList with ⟨Y, e, h1, h2⟩ | ⟨m, c, e, h1⟩
  · rw [e]; exact Or.inl ⟨Y, rfl, h1, by omega⟩
  · rw [e]; exact Or.inr ⟨_, c, rfl, h1, by omega, by omega⟩
/-- What is written is read as the term. -/
theorem parseR_wrote {T : Tm} (h : rightB 200 T = true) (hl : (wrT T []).length ≤ 65536) (e : wrT T [] = txt T) : parseR ⟨(wrT T []).toArray⟩ = (T, 0, 0) := by
  unfold parseR
  have hs : (⟨(wrT T []).toArray⟩ : ByteArray).size = (wrT T []).length := by simp [ByteArray.size]
  rw [hs, if_neg (by omega)]
  have : (⟨(wrT T []).toArray⟩ : ByteArray).data.toList = txt T := by simp [e]
  rw [this, parse_txt h]
theorem printF_short {T : Tm} (h : rightB 200 T = true) (hl : (txt T).length ≤ 65536) : printF T = (wrT T [], 0) ∧ (wrT T []).length ≤ 65536 ∧ wrT T [] = txt T := by
  have e : wrT T [] = txt T := by
    rcases wrT_txt T [] with h | ⟨_, h⟩
    · simpa using h
    · rw [List.nil_append] at h; omega
  unfold printF
  rw [if_pos h, e, if_pos hl]
  exact ⟨rfl, hl, rfl⟩
/-- Two blocks laid. -/
theorem two_blk (w : World) (c d : Array Value) (t u : TypeId) : Blk ((w.alloc (.cells c t)).alloc (.cells d u)) w.heap.size c t ∧ Blk ((w.alloc (.cells c t)).alloc (.cells d u)) (w.heap.size + 1) d u := by
  refine ⟨(Blk.new w c t).alloc _, ?_⟩
  have := Blk.new (w.alloc (.cells c t)) d u
  rw [World.size_alloc] at this
  exact this

set_option maxHeartbeats 4000000 in
set_option maxRecDepth 100000 in
theorem law_back (T : Tm) (s : ByteArray) (v : Value) (w : World) (hT : RT w T v) (hz : s.size ≤ 9223372036854775807) : Calls Try.prog 4 #[v, .string s] w fun e w' => e = .returned (.bool true) ∧ Below w.heap.size w w' := by
  obtain ⟨a1, c1, a2, c2, rfl, _, _, _, _⟩ := hT.open
  have HA := hide (fun W => alive_any W)
  have HT := hide (fun W (h : Below w.heap.size w W) => RT.below h hT)
  have HV1 := hide (fun W h => heavy_any T (.agg #[.int .i64 T.kind, .string T.cons, .slice a1 T.text.length c1, .slice a2 T.kids.length c2]) W h)
  have HP1 := hide (fun W h k => Print_free T (.agg #[.int .i64 T.kind, .string T.cons, .slice a1 T.text.length c1, .slice a2 T.kids.length c2]) W h k)
  have hbA := Blk.new w #[.int .i64 T.kind, .string T.cons, .slice a1 T.text.length c1, .slice a2 T.kids.length c2] 25
  have HW := hide ((Below.refl _ w).alloc (Nat.le_refl _) (.cells #[.int .i64 T.kind, .string T.cons, .slice a1 T.text.length c1, .slice a2 T.kids.length c2] 25))
  have HB := hide hbA
  clear hT hbA
  cases h1 : heavyB T with
  | true =>
    rw [h1] at HV1
    go_enter Try.func4, Try.ntmps4
    go_wp2_with fail
    refine (HV1.out _ (HT.out _ HW.out)).mono ?_
    rintro e w1 ⟨rfl, hb1⟩
    have HB1 := hide (HW.out.trans (hb1.mono HW.out.size))
    clear hb1
    go_wp2_with fail
    refine (HA.out _).mono ?_
    rintro e w2 ⟨rfl, hb2⟩
    have HB2 := hide (HB1.out.trans (hb2.mono HB1.out.size))
    clear hb2
    go_wp2_with fail
    go_ret
    exact ⟨rfl, HB2.out⟩
  | false =>
    rw [h1] at HV1
    have HN1 := hide h1
    clear h1
    by_cases hs : 9000 < s.size
    · have hsI : (9000 : Int) < (s.size : Int) := by omega
      go_enter Try.func4, Try.ntmps4
      go_wp2_with fail
      refine (HV1.out _ (HT.out _ HW.out)).mono ?_
      rintro e w1 ⟨rfl, hb1⟩
      have HB1 := hide (HW.out.trans (hb1.mono HW.out.size))
      clear hb1
      go_wp2_with fail
      refine (HA.out _).mono ?_
      rintro e w2 ⟨rfl, hb2⟩
      have HB2 := hide (HB1.out.trans (hb2.mono HB1.out.size))
      clear hb2
      go_wp2_with fail
      go_ret
      exact ⟨rfl, HB2.out⟩
    · have hsI : ¬ (9000 : Int) < (s.size : Int) := by omega
      have hsz : s.size ≤ 9000 := by omega
      go_enter Try.func4, Try.ntmps4
      go_wp2_with fail
      refine (HV1.out _ (HT.out _ HW.out)).mono ?_
      rintro e w1 ⟨rfl, hb1⟩
      have HB1 := hide (HW.out.trans (hb1.mono HW.out.size))
      have q := HB.out.below hb1
      have e0 := q.cell 0
      have e1 := q.cell 1
      have e2 := q.cell 2
      have e3 := q.cell 3
      have HBA := hide q
      clear hb1 q
      obtain ⟨pt, ct, hpt⟩ : ∃ p c, printF T = (p, c) := ⟨_, _, rfl⟩
      have HPT := hide hpt
      clear hpt HV1
      go_wp2_with fail
      refine (HP1.out _ (HT.out _ HB1.out) HN1.out).mono ?_
      rintro e w2 ⟨he, hb2⟩
      rw [HPT.out] at he
      subst he
      have HB2 := hide (HB1.out.trans (hb2.mono HB1.out.size))
      have HBA2 := hide (HBA.out.below hb2)
      clear hb2 HB1 HBA HB HW e0 e1 e2 e3
      go_upto_if 28 with fail
      go_cut [] (fun wc => Hid (Below w.heap.size w wc))
      case first =>
        have KT := printF_cases T
        rw [HPT.out] at KT
        rcases KT with ⟨rT, hl, tT, eT⟩ | ⟨dt, hdt, eT⟩
        · obtain ⟨rfl, rfl⟩ := Prod.mk.inj eT
          have hp := parseR_wrote rT hl tT
          have HP := hide (parse_any ⟨(wrT T []).toArray⟩ w2 (by simp [ByteArray.size]; omega))
          rw [hp] at HP
          clear rT hl tT eT hp
          generalize wrT T [] = pt at *
          go_wp2_with fail
          refine HP.out.mono ?_
          rintro e w3 ⟨⟨x3, rfl, hx3⟩, hb⟩
          obtain ⟨p3, m3, q3, l3, rfl, _, _, _, _⟩ := hx3.open
          have HB3 := hide (HB2.out.trans (hb.mono HB2.out.size))
          have HX3 := hide hx3.to
          have HO3 := hide (HBA2.out.below hb)
          clear hx3 hb HP
          unfold fv
          have hb2 := two_blk w3 #[.int .i64 T.kind, .string T.cons, .slice p3 T.text.length m3, .slice q3 T.kids.length l3] #[.int .i64 0, .int .i64 0] 25 32
          have hw2 := two_new w3 (.cells #[.int .i64 T.kind, .string T.cons, .slice p3 T.text.length m3, .slice q3 T.kids.length l3] 25) (.cells #[.int .i64 0, .int .i64 0] 32)
          have o2 := HO3.out.below hw2
          have HX4 := hide (RT.below hw2 HX3.out)
          have HW4 := hide (HB3.out.trans (hw2.mono HB3.out.size))
          have d0 := o2.cell 0
          have d1 := o2.cell 1
          have d2 := o2.cell 2
          have d3 := o2.cell 3
          have o0 := o2.lt
          clear hb2 hw2 o2
          go_wp2_with fail
          refine (rsame_any T T _ _ _ HX4.out (HT.out _ HW4.out)).mono ?_
          rintro e w5 ⟨rfl, hb⟩
          have HB5 := hide (HW4.out.trans (hb.mono HW4.out.size))
          have hTT : sameB T T = true := (sameB_eq T T).2 rfl
          rw [hTT]
          clear hb d0 d1 d2 d3 o0
          go_wp2_with fail
          go_meet
          exact HB5
        · obtain ⟨rfl, rfl⟩ := Prod.mk.inj eT
          have p1 : (ct == 0) = false := by rcases hdt with rfl | rfl <;> rfl
          have p2 : (ct != 0) = true := by rcases hdt with rfl | rfl <;> rfl
          clear hdt eT
          go_wp2_with fail
          go_meet
          exact HB2
      case rest =>
        have HC := hide hcut.out
        clear HBA2 HB2 hcut HPT HN1
        have HP := hide (parse_any s wc (by omega))
        rcases parseR_cases s hsz with ⟨Y, hp, rY, hlY⟩ | ⟨k, c, hp, hc0, hk0, hk1⟩
        · rw [hp] at HP
          have hpr := printF_short rY (by omega)
          have hvY : vol Y ≤ 140737488330000 := by
            have := vol_txt Y 200 rY
            omega
          have hp2 := parseR_wrote rY hpr.2.1 hpr.2.2
          have HPY := hide (fun W y h => Print_any Y y W h hvY)
          rw [hpr.1] at HPY
          have HPZ := hide (fun W => parse_any ⟨(wrT Y []).toArray⟩ W (by have := hpr.2.1; simp [ByteArray.size]; omega))
          rw [hp2] at HPZ
          have HRY := hide (fun W y h => Right_any Y y W h)
          rw [rY] at HRY
          have HSY := hide (fun W y z h k => rsame_any Y Y y z W h k)
          rw [(sameB_eq Y Y).2 rfl] at HSY
          clear hp rY hlY hpr hvY hp2 hs hsz
          generalize wrT Y [] = pY at *
          go_wp2_with fail
          refine HP.out.mono ?_
          rintro e w3 ⟨⟨x3, rfl, hx3⟩, hb⟩
          obtain ⟨p3, m3, q3, l3, rfl, _, _, _, _⟩ := hx3.open
          have HB3 := hide (HC.out.trans (hb.mono HC.out.size))
          have HX3 := hide hx3.to
          clear hx3 hb HP
          unfold fv
          have hb2 := two_blk w3 #[.int .i64 Y.kind, .string Y.cons, .slice p3 Y.text.length m3, .slice q3 Y.kids.length l3] #[.int .i64 0, .int .i64 0] 25 32
          have hw2 := two_new w3 (.cells #[.int .i64 Y.kind, .string Y.cons, .slice p3 Y.text.length m3, .slice q3 Y.kids.length l3] 25) (.cells #[.int .i64 0, .int .i64 0] 32)
          have HK4 := hide hb2
          have HX4 := hide (RT.below hw2 HX3.out)
          have HW4 := hide (HB3.out.trans (hw2.mono HB3.out.size))
          clear hb2 hw2
          go_wp2_with fail
          refine (HPY.out _ _ HX4.out).mono ?_
          rintro e w5 ⟨rfl, hb⟩
          have HB5 := hide (HW4.out.trans (hb.mono HW4.out.size))
          have HX5 := hide (RT.below hb HX4.out)
          have HK5 := hide (HK4.out.1.below hb)
          clear hb HX4 HK4 HX3
          go_wp2_with fail
          refine (HPZ.out _).mono ?_
          rintro e w6 ⟨⟨x6, rfl, hx6⟩, hb⟩
          obtain ⟨p6, m6, q6, l6, rfl, _, _, _, _⟩ := hx6.open
          have HB6 := hide (HB5.out.trans (hb.mono HB5.out.size))
          have HZ6 := hide hx6.to
          have HX6 := hide (RT.below hb HX5.out)
          have HK6 := hide (HK5.out.below hb)
          clear hx6 hb HX5 HK5
          have hb2 := two_blk w6 #[.int .i64 Y.kind, .string Y.cons, .slice p6 Y.text.length m6, .slice q6 Y.kids.length l6] #[.int .i64 0, .int .i64 0] 25 32
          have hw2 := two_new w6 (.cells #[.int .i64 Y.kind, .string Y.cons, .slice p6 Y.text.length m6, .slice q6 Y.kids.length l6] 25) (.cells #[.int .i64 0, .int .i64 0] 32)
          have HZ7 := hide (RT.below hw2 HZ6.out)
          have HX7 := hide (RT.below hw2 HX6.out)
          have HW7 := hide (HB6.out.trans (hw2.mono HB6.out.size))
          have HK7 := hide (HK6.out.below hw2)
          have HM7 := hide hb2
          clear HZ6 HX6 HK6 hb2 hw2
          go_wp2_with fail
          refine (HA.out _).mono ?_
          rintro e w8 ⟨rfl, hb⟩
          have HB8 := hide (HW7.out.trans (hb.mono HW7.out.size))
          have HZ8 := hide (RT.below hb HZ7.out)
          have HX8 := hide (RT.below hb HX7.out)
          have HK8 := hide (HK7.out.below hb)
          have HM8 := hide (HM7.out.1.below hb)
          have HN8 := hide (HM7.out.2.below hb)
          clear hb HZ7 HX7 HK7 HM7
          have d0 := HK8.out.cell 0
          have d1 := HK8.out.cell 1
          have d2 := HK8.out.cell 2
          have d3 := HK8.out.cell 3
          go_wp2_with fail
          refine (HRY.out _ _ HX8.out).mono ?_
          rintro e w9 ⟨rfl, hb⟩
          have HB9 := hide (HB8.out.trans (hb.mono HB8.out.size))
          have HZ9 := hide (RT.below hb HZ8.out)
          have HX9 := hide (RT.below hb HX8.out)
          have HK9 := HK8.out.below hb
          have HM9 := HM8.out.below hb
          have HN9 := HN8.out.below hb
          clear hb HZ8 HX8 HK8 HM8 HN8 d0 d1 d2 d3
          have d0 := HK9.cell 0
          have d1 := HK9.cell 1
          have d2 := HK9.cell 2
          have d3 := HK9.cell 3
          have f0 := HM9.cell 0
          have f1 := HM9.cell 1
          have f2 := HM9.cell 2
          have f3 := HM9.cell 3
          have g0 := HN9.cell 0
          have g1 := HN9.cell 1
          clear HK9 HM9 HN9
          go_wp2_with fail
          refine (HSY.out _ _ _ HZ9.out HX9.out).mono ?_
          rintro e w10 ⟨rfl, hb⟩
          have HB10 := hide (HB9.out.trans (hb.mono HB9.out.size))
          clear hb d0 d1 d2 d3 f0 f1 f2 f3 g0 g1
          go_wp2_with fail
          go_ret
          exact ⟨rfl, HB10.out⟩
        · rw [hp] at HP
          have c1 : (c == 0) = false := by simpa using hc0
          have c2 : (c != 0) = true := by simpa using hc0
          have HSY := hide (fun W y z h k => rsame_any zT zT y z W h k)
          rw [(sameB_eq zT zT).2 rfl] at HSY
          clear hp hc0 hs hsz
          go_wp2_with fail
          refine HP.out.mono ?_
          rintro e w3 ⟨⟨x3, rfl, hx3⟩, hb⟩
          obtain ⟨p3, m3, q3, l3, rfl, _, _, _, _⟩ := hx3.open
          have HB3 := hide (HC.out.trans (hb.mono HC.out.size))
          have HX3 := hide hx3.to
          clear hx3 hb HP
          unfold fv
          have hb2 := two_blk w3 #[.int .i64 zT.kind, .string zT.cons, .slice p3 zT.text.length m3, .slice q3 zT.kids.length l3] #[.int .i64 k, .int .i64 c] 25 32
          have hw2 := two_new w3 (.cells #[.int .i64 zT.kind, .string zT.cons, .slice p3 zT.text.length m3, .slice q3 zT.kids.length l3] 25) (.cells #[.int .i64 k, .int .i64 c] 32)
          have HK4 := hide hb2
          have HX4 := hide (RT.below hw2 HX3.out)
          have HW4 := hide (HB3.out.trans (hw2.mono HB3.out.size))
          clear hb2 hw2
          go_wp2_with fail
          refine (HA.out _).mono ?_
          rintro e w5 ⟨rfl, hb⟩
          have HB5 := hide (HW4.out.trans (hb.mono HW4.out.size))
          have HX5 := hide (RT.below hb HX4.out)
          have HK5 := hide (HK4.out.1.below hb)
          have HN5 := hide (HK4.out.2.below hb)
          clear hb HX4 HK4 HX3
          have d0 := HK5.out.cell 0
          have d1 := HK5.out.cell 1
          have d2 := HK5.out.cell 2
          have d3 := HK5.out.cell 3
          go_wp2_with fail
          have HZ5 := hide (show RT w5 zT (.agg #[.int .i64 0, .string emptyB, .slice none 0 0, .slice none 0 0]) from (RTo.shut (by decide) (by decide) RBo.nil RKo.nil rfl rfl : RTo (fun _ => True) w5 zT _))
          refine (HSY.out _ _ _ HX5.out HZ5.out).mono ?_
          rintro e w6 ⟨rfl, hb⟩
          have HB6 := hide (HB5.out.trans (hb.mono HB5.out.size))
          have q := HN5.out.below hb
          have g0 := q.cell 0
          have g1 := q.cell 1
          clear hb d0 d1 d2 d3 q
          go_wp2_with fail
          go_ret
          exact ⟨rfl, HB6.out⟩
end Go.Proofs.Ytfndldfnlncabaa
