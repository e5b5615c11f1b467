/- The law TermsPut, walked. -/
import Derived.Test.YtfndldfnlncabaaPut
import Derived.Test.YtfndldfnlncabaaAlive
import Derived.Test.YtfndldfnlncabaaParts
import Derived.Test.YtfndldfnlncabaaRSame
import Derived.Test.YtfndldfnlncabaaLSame
set_option linter.unusedVariables false
set_option linter.unusedSimpArgs false
set_option linter.unnecessarySimpa false
set_option linter.deprecated false
namespace Go.Proofs.Ytfndldfnlncabaa
open Go.RowKit

theorem kidAt_set {ks : List Tm} {i : Int} {U V : Tm} (h : kidAt ks i = some U) : kidAt (ks.set i.toNat V) i = some V := by
  obtain ⟨j, rfl, hj, _⟩ := kidAt_some h
  rw [Int.toNat_natCast, kidAt_nat _ j (by simpa using hj)]
  simp
theorem put_at : ∀ (l : List Int) (T S X : Tm), putP T l S = some X → atP X l = some S
  | [], T, S, X, h => by
    have : putP T [] S = some S := by cases T; rfl
    rw [this] at h
    rw [atP]; exact h.symm
  | i :: p, T, S, X, h => by
    rw [putP_cons] at h
    cases hk : kidAt T.kids i with
    | none => rw [hk] at h; cases h
    | some U =>
      rw [hk] at h
      simp only [Option.map_eq_some_iff] at h
      obtain ⟨V, hV, rfl⟩ := h
      rw [atP_cons]
      show (match kidAt (T.kids.set i.toNat V) i with | some U => atP U p | none => none) = some S
      rw [kidAt_set hk]
      exact put_at p U S V hV
theorem put_back : ∀ (l : List Int) (T S X O : Tm), atP T l = some O → putP T l S = some X → putP X l O = some T
  | [], T, S, X, O, ha, h => by
    have : putP X [] O = some O := by cases X; rfl
    rw [this]
    rw [atP] at ha
    rw [← ha]
  | i :: p, T, S, X, O, ha, h => by
    rw [putP_cons] at h
    rw [atP_cons] at ha
    cases hk : kidAt T.kids i with
    | none => rw [hk] at h; cases h
    | some U =>
      rw [hk] at h ha
      simp only [Option.map_eq_some_iff] at h ha
      obtain ⟨V, hV, rfl⟩ := h
      rw [putP_cons]
      show (match kidAt (T.kids.set i.toNat V) i with | some U => (putP U p O).map (setKid (setKid T i.toNat V) i.toNat) | none => none) = some T
      rw [kidAt_set hk]
      simp only [put_back p U S V O ha hV, Option.map_some, Option.some.injEq]
      obtain ⟨j, rfl, hj, hU⟩ := kidAt_some hk
      unfold setKid
      simp only [Tm.kind, Tm.cons, Tm.text, Tm.kids, Int.toNat_natCast, List.set_set]
      cases T with
      | mk k c t ks =>
        simp only [Tm.kind, Tm.cons, Tm.text, Tm.kids] at hU hj ⊢
        congr 1
        rw [← hU]
        exact List.set_getElem_self hj
theorem cntL_set (V : Tm) : ∀ (ks : List Tm) (j : Nat), cntL (ks.set j V) ≤ cntL ks + cnt V
  | [], j => by simp [cntL]
  | x :: xs, 0 => by rw [List.set_cons_zero, cntL, cntL]; omega
  | x :: xs, j + 1 => by rw [List.set_cons_succ, cntL, cntL]; have := cntL_set V xs j; omega
theorem cntL_set' (V : Tm) : ∀ (ks : List Tm) (j : Nat) (h : j < ks.length), cntL (ks.set j V) + cnt ks[j] = cntL ks + cnt V
  | [], j, h => absurd h (by simp)
  | x :: xs, 0, h => by rw [List.set_cons_zero, cntL, cntL]; simp; omega
  | x :: xs, j + 1, h => by
    rw [List.set_cons_succ, cntL, cntL]
    have := cntL_set' V xs j (by simpa using h)
    simp only [List.getElem_cons_succ]
    omega
theorem putP_cnt : ∀ (l : List Int) (T S X : Tm), putP T l S = some X → cnt X ≤ cnt T + cnt S
  | [], T, S, X, h => by
    have : putP T [] S = some S := by cases T; rfl
    rw [this] at h
    injection h with h
    subst h; omega
  | i :: p, T, S, X, h => by
    rw [putP_cons] at h
    cases hk : kidAt T.kids i with
    | none => rw [hk] at h; cases h
    | some U =>
      rw [hk] at h
      simp only [Option.map_eq_some_iff] at h
      obtain ⟨V, hV, rfl⟩ := h
      have h1 := putP_cnt p U S V hV
      obtain ⟨j, rfl, hj, hU⟩ := kidAt_some hk
      have h2 := cntL_set' V T.kids j hj
      rw [hU] at h2
      cases T with
      | mk k c t ks =>
        unfold setKid
        simp only [Tm.kind, Tm.cons, Tm.text, Tm.kids, Int.toNat_natCast] at h2 ⊢
        rw [cnt, cnt]
        omega
theorem RV.below {w w' : World} {l : List Int} {u : Value} (h : RV w l u) (hb : Below w.heap.size w w') : RV w' l u := by
  obtain ⟨a, c, e, hr⟩ := h
  exact ⟨a, c, e, hr.below hb⟩

set_option maxHeartbeats 8000000 in
set_option maxRecDepth 100000 in
theorem law_put (T : Tm) (l : List Int) (S : Tm) (v u s : Value) (w : World) (hT : RT w T v) (hL : RV w l u) (hS : RT w S s) : Calls Try.prog 10 #[v, u, s] w fun e w' => e = .returned (.bool true) ∧ Below w.heap.size w w' := by
  obtain ⟨a1, c1, a2, c2, rfl, _, _, _, _⟩ := hT.open
  obtain ⟨b1, d1, b2, d2, rfl, _, _, _, _⟩ := hS.open
  have HA := hide (fun W => alive_any W)
  have HT := hide (fun W (h : Below w.heap.size w W) => RT.below h hT)
  have HS := hide (fun W (h : Below w.heap.size w W) => RT.below h hS)
  have HL := hide (fun W (h : Below w.heap.size w W) => RV.below hL h)
  have HV1 := hide (fun W h => heavy_any T (.agg #[.int .i64 T.kind, .string T.cons, .slice a1 T.text.length c1, .slice a2 T.kids.length c2]) W h)
  have HV2 := hide (fun W h => heavy_any S (.agg #[.int .i64 S.kind, .string S.cons, .slice b1 S.text.length d1, .slice b2 S.kids.length d2]) W h)
  have HW := hide (two_boxes0 w (.cells #[.int .i64 T.kind, .string T.cons, .slice a1 T.text.length c1, .slice a2 T.kids.length c2] 25) (.cells #[.int .i64 S.kind, .string S.cons, .slice b1 S.text.length d1, .slice b2 S.kids.length d2] 25))
  have hbb : Blk ((w.alloc (.cells #[.int .i64 T.kind, .string T.cons, .slice a1 T.text.length c1, .slice a2 T.kids.length c2] 25)).alloc (.cells #[.int .i64 S.kind, .string S.cons, .slice b1 S.text.length d1, .slice b2 S.kids.length d2] 25)) w.heap.size #[.int .i64 T.kind, .string T.cons, .slice a1 T.text.length c1, .slice a2 T.kids.length c2] 25 ∧ Blk ((w.alloc (.cells #[.int .i64 T.kind, .string T.cons, .slice a1 T.text.length c1, .slice a2 T.kids.length c2] 25)).alloc (.cells #[.int .i64 S.kind, .string S.cons, .slice b1 S.text.length d1, .slice b2 S.kids.length d2] 25)) (w.heap.size + 1) #[.int .i64 S.kind, .string S.cons, .slice b1 S.text.length d1, .slice b2 S.kids.length d2] 25 := by
    refine ⟨(Blk.new w _ _).alloc _, ?_⟩
    have := Blk.new (w.alloc (.cells #[.int .i64 T.kind, .string T.cons, .slice a1 T.text.length c1, .slice a2 T.kids.length c2] 25)) #[.int .i64 S.kind, .string S.cons, .slice b1 S.text.length d1, .slice b2 S.kids.length d2] 25
    rw [World.size_alloc] at this
    exact this
  have HB := hide hbb
  obtain ⟨al, cl, rfl, hRI⟩ := hL
  obtain ⟨nl, hnl⟩ : ∃ n, l.length = n := ⟨_, rfl⟩
  have HNL := hide hnl
  have hlen := hRI.len
  rw [hnl] at hlen HL ⊢
  clear hnl hRI hT hS hbb
  cases h1 : heavyB T with
  | true =>
    rw [h1] at HV1
    go_enter Try.func10, Try.ntmps10
    go_wp2_with fail
    refine (HV1.out _ (HT.out _ HW.out)).mono ?_
    rintro e w1 ⟨rfl, hb1⟩
    have HB1 := hide (HW.out.trans (hb1.mono HW.out.size))
    clear hb1
    go_wp2_with fail
    refine (HA.out _).mono ?_
    rintro e w2 ⟨rfl, hb2⟩
    have HB2 := hide (HB1.out.trans (hb2.mono HB1.out.size))
    clear hb2
    go_wp2_with fail
    go_ret
    exact ⟨rfl, HB2.out⟩
  | false =>
    rw [h1] at HV1
    cases h2 : heavyB S with
    | true =>
      rw [h2] at HV2
      go_enter Try.func10, Try.ntmps10
      go_wp2_with fail
      refine (HV1.out _ (HT.out _ HW.out)).mono ?_
      rintro e w1 ⟨rfl, hb1⟩
      have HB1 := hide (HW.out.trans (hb1.mono HW.out.size))
      have hc := HB.out.2.below hb1
      have e0 := hc.cell 0
      have e1 := hc.cell 1
      have e2 := hc.cell 2
      have e3 := hc.cell 3
      have el := hc.lt
      clear hb1 hc
      go_wp2_with fail
      refine (HV2.out _ (HS.out _ HB1.out)).mono ?_
      rintro e w2 ⟨rfl, hb2⟩
      have HB2 := hide (HB1.out.trans (hb2.mono HB1.out.size))
      clear hb2
      go_wp2_with fail
      refine (HA.out _).mono ?_
      rintro e w3 ⟨rfl, hb3⟩
      have HB3 := hide (HB2.out.trans (hb3.mono HB2.out.size))
      clear hb3
      go_wp2_with fail
      go_ret
      exact ⟨rfl, HB3.out⟩
    | false =>
      rw [h2] at HV2
      have HC1 := hide (cnt_of_heavy h1)
      have HC2 := hide (cnt_of_heavy h2)
      clear h1 h2
      by_cases hbig : 1000 < nl
      · have hbi : (1000 : Int) < (nl : Int) := by omega
        go_enter Try.func10, Try.ntmps10
        go_wp2_with fail
        refine (HV1.out _ (HT.out _ HW.out)).mono ?_
        rintro e w1 ⟨rfl, hb1⟩
        have HB1 := hide (HW.out.trans (hb1.mono HW.out.size))
        have hc := HB.out.2.below hb1
        have e0 := hc.cell 0
        have e1 := hc.cell 1
        have e2 := hc.cell 2
        have e3 := hc.cell 3
        have el := hc.lt
        clear hb1 hc
        go_wp2_with fail
        refine (HV2.out _ (HS.out _ HB1.out)).mono ?_
        rintro e w2 ⟨rfl, hb2⟩
        have HB2 := hide (HB1.out.trans (hb2.mono HB1.out.size))
        clear hb2
        go_wp2_with fail
        refine (HA.out _).mono ?_
        rintro e w3 ⟨rfl, hb3⟩
        have HB3 := hide (HB2.out.trans (hb3.mono HB2.out.size))
        clear hb3
        go_wp2_with fail
        go_ret
        exact ⟨rfl, HB3.out⟩
      · have hbi : ¬ (1000 : Int) < (nl : Int) := by omega
        have HAT := hide (fun W u h1 h2 => at_any T l (.agg #[.int .i64 T.kind, .string T.cons, .slice a1 T.text.length c1, .slice a2 T.kids.length c2]) u W (by have := HC1.out; omega) h1 h2)
        have HPT := hide (fun W u h1 h2 h3 => put_any T S l (.agg #[.int .i64 T.kind, .string T.cons, .slice a1 T.text.length c1, .slice a2 T.kids.length c2]) u (.agg #[.int .i64 S.kind, .string S.cons, .slice b1 S.text.length d1, .slice b2 S.kids.length d2]) W (by have := HC1.out; omega) (by have := HC2.out; omega) h1 h2 h3)
        go_enter Try.func10, Try.ntmps10
        go_wp2_with fail
        refine (HV1.out _ (HT.out _ HW.out)).mono ?_
        rintro e w1 ⟨rfl, hb1⟩
        have HB1 := hide (HW.out.trans (hb1.mono HW.out.size))
        have hc0 := HB.out.1.below hb1
        have hc := HB.out.2.below hb1
        have e0 := hc.cell 0
        have e1 := hc.cell 1
        have e2 := hc.cell 2
        have e3 := hc.cell 3
        have el := hc.lt
        clear hb1
        go_wp2_with fail
        refine (HV2.out _ (HS.out _ HB1.out)).mono ?_
        rintro e w2 ⟨rfl, hb2⟩
        have HB2 := hide (HB1.out.trans (hb2.mono HB1.out.size))
        have KT2 := hide (hc0.below hb2)
        have KS2 := hide (hc.below hb2)
        clear hb2 hc hc0 e0 e1 e2 e3 el HV1 HV2 HW HB
        have t0 := KT2.out.cell 0
        have t1 := KT2.out.cell 1
        have t2 := KT2.out.cell 2
        have t3 := KT2.out.cell 3
        have tl := KT2.out.lt
        go_wp2_with fail
        refine (HAT.out _ _ (HT.out _ HB2.out) (HL.out _ HB2.out)).mono ?_
        rintro e w3 ⟨hAt, hb⟩
        have HB3 := hide (HB2.out.trans (hb.mono HB2.out.size))
        have KT3 := hide (KT2.out.below hb)
        have KS3 := hide (KS2.out.below hb)
        clear hb t0 t1 t2 t3 tl KT2 KS2
        cases hat : atP T l with
        | none =>
          rw [hat] at hAt
          obtain rfl := hAt
          rw [putP_none l T S hat] at HPT
          have HB3a := hide (HB3.out.alloc HB3.out.size (.cells #[.int .i64 0, .string emptyB, .slice none 0 0, .slice none 0 0] 25))
          have q1 := KT3.out.alloc (.cells #[.int .i64 0, .string emptyB, .slice none 0 0, .slice none 0 0] 25)
          have q2 := KS3.out.alloc (.cells #[.int .i64 0, .string emptyB, .slice none 0 0, .slice none 0 0] 25)
          have t0 := KT3.out.cell 0
          have t1 := KT3.out.cell 1
          have t2 := KT3.out.cell 2
          have t3 := KT3.out.cell 3
          have tl := KT3.out.lt
          have s0 := KS3.out.cell 0
          have s1 := KS3.out.cell 1
          have s2 := KS3.out.cell 2
          have s3 := KS3.out.cell 3
          have sl := KS3.out.lt
          clear q1 q2
          go_wp2_with fail
          refine (HPT.out _ _ (HT.out _ HB3a.out) (HL.out _ HB3a.out) (HS.out _ HB3a.out)).mono ?_
          rintro e w4 ⟨rfl, hb⟩
          have HB4 := hide ((HB3a.out.trans (hb.mono HB3a.out.size)).alloc (Nat.le_trans HB3a.out.size hb.size) (.cells #[.int .i64 0, .string emptyB, .slice none 0 0, .slice none 0 0] 25))
          clear hb t0 t1 t2 t3 tl s0 s1 s2 s3 sl
          go_wp2_with fail
          refine (HA.out _).mono ?_
          rintro e w5 ⟨rfl, hb⟩
          have HB5 := hide (HB4.out.trans (hb.mono HB4.out.size))
          clear hb
          go_wp2_with fail
          go_ret
          exact ⟨rfl, HB5.out⟩
        | some O =>
          rw [hat] at hAt
          obtain ⟨v', rfl, htr⟩ := hAt
          obtain ⟨X, hX⟩ := putP_some l T S O hat
          rw [hX] at HPT
          obtain ⟨p1, m1, p2, m2, rfl, _, _, _, _⟩ := htr.rt.open
          have HPA := hide (put_at l T S X hX)
          have HPB := hide (put_back l T S X O hat hX)
          have HCX := hide (putP_cnt l T S X hX)
          have HCO := hide (atP_cnt l T O hat)
          have HO3 := hide (show RT w3 O (.agg #[.int .i64 O.kind, .string O.cons, .slice p1 O.text.length m1, .slice p2 O.kids.length m2]) from RTo.weak (fun _ _ => trivial) htr.rt)
          have hn3 := (Below.refl w3.heap.size w3).alloc (Nat.le_refl _) (.cells #[.int .i64 O.kind, .string O.cons, .slice p1 O.text.length m1, .slice p2 O.kids.length m2] 25)
          have HB3a := hide (HB3.out.trans (hn3.mono HB3.out.size))
          have HO3a := hide (RT.below hn3 HO3.out)
          have KT3a := hide (KT3.out.below hn3)
          have KS3a := hide (KS3.out.below hn3)
          have KO3a := hide (Blk.new w3 #[.int .i64 O.kind, .string O.cons, .slice p1 O.text.length m1, .slice p2 O.kids.length m2] 25)
          have t0 := KT3.out.cell 0
          have t1 := KT3.out.cell 1
          have t2 := KT3.out.cell 2
          have t3 := KT3.out.cell 3
          have tl := KT3.out.lt
          have s0 := KS3.out.cell 0
          have s1 := KS3.out.cell 1
          have s2 := KS3.out.cell 2
          have s3 := KS3.out.cell 3
          have sl := KS3.out.lt
          clear htr hX hat hn3 HO3
          go_wp2_with fail
          refine (HPT.out _ _ (HT.out _ HB3a.out) (HL.out _ HB3a.out) (HS.out _ HB3a.out)).mono ?_
          rintro e w4 ⟨⟨v', rfl, hx⟩, hb⟩
          obtain ⟨x1, n1, x2, n2, rfl, _, _, _, _⟩ := hx.open
          have hX4 : RT w4 X (.agg #[.int .i64 X.kind, .string X.cons, .slice x1 X.text.length n1, .slice x2 X.kids.length n2]) := RTo.weak (fun _ _ => trivial) hx
          have hn4 := (Below.refl w4.heap.size w4).alloc (Nat.le_refl _) (.cells #[.int .i64 X.kind, .string X.cons, .slice x1 X.text.length n1, .slice x2 X.kids.length n2] 25)
          have hbn := hb.trans (hn4.mono hb.size)
          have HB4a := hide (HB3a.out.trans (hbn.mono HB3a.out.size))
          have HX4a := hide (RT.below hn4 hX4)
          have HO4a := hide (RT.below hbn HO3a.out)
          have KT4a := hide (KT3a.out.below hbn)
          have KS4a := hide (KS3a.out.below hbn)
          have KO4a := hide (KO3a.out.below hbn)
          have KX4a := hide (Blk.new w4 #[.int .i64 X.kind, .string X.cons, .slice x1 X.text.length n1, .slice x2 X.kids.length n2] 25)
          have HAX := hide (at_any X l (.agg #[.int .i64 X.kind, .string X.cons, .slice x1 X.text.length n1, .slice x2 X.kids.length n2]) _ _ (by have := HC1.out; have := HC2.out; have := HCX.out; omega) HX4a.out (HL.out _ HB4a.out))
          rw [HPA.out] at HAX
          clear hx hX4 hn4 hb hbn t0 t1 t2 t3 tl s0 s1 s2 s3 sl HO3a KT3a KS3a KO3a
          go_wp2_with fail
          refine HAX.out.mono ?_
          rintro e w5 ⟨⟨v', rfl, htr⟩, hb⟩
          obtain ⟨y1, r1, y2, r2, rfl, _, _, _, _⟩ := htr.rt.open
          have hS5 : RT w5 S (.agg #[.int .i64 S.kind, .string S.cons, .slice y1 S.text.length r1, .slice y2 S.kids.length r2]) := RTo.weak (fun _ _ => trivial) htr.rt
          have hn5 := (Below.refl w5.heap.size w5).alloc (Nat.le_refl _) (.cells #[.int .i64 S.kind, .string S.cons, .slice y1 S.text.length r1, .slice y2 S.kids.length r2] 25)
          have hbn := hb.trans (hn5.mono hb.size)
          have HB5a := hide (HB4a.out.trans (hbn.mono HB4a.out.size))
          have HX5a := hide (RT.below hbn HX4a.out)
          have HO5a := hide (RT.below hbn HO4a.out)
          have HS5a := hide (RT.below hn5 hS5)
          have KT5a := hide (KT4a.out.below hbn)
          have KS5a := hide (KS4a.out.below hbn)
          have KN5a := hide (Blk.new w5 #[.int .i64 S.kind, .string S.cons, .slice y1 S.text.length r1, .slice y2 S.kids.length r2] 25)
          have qx := KX4a.out.below hb
          have qo := KO4a.out.below hb
          have f0 := qx.cell 0
          have f1 := qx.cell 1
          have f2 := qx.cell 2
          have f3 := qx.cell 3
          have fl := qx.lt
          have g0 := qo.cell 0
          have g1 := qo.cell 1
          have g2 := qo.cell 2
          have g3 := qo.cell 3
          have gl := qo.lt
          have HPX := hide (put_any X O l (.agg #[.int .i64 X.kind, .string X.cons, .slice x1 X.text.length n1, .slice x2 X.kids.length n2]) _ (.agg #[.int .i64 O.kind, .string O.cons, .slice p1 O.text.length m1, .slice p2 O.kids.length m2]) _ (by have := HC1.out; have := HC2.out; have := HCX.out; omega) (by have := HC1.out; have := HCO.out; omega) HX5a.out (HL.out _ HB5a.out) HO5a.out)
          rw [HPB.out] at HPX
          clear htr hS5 hn5 hb hbn qx qo HX4a HO4a KT4a KS4a KO4a KX4a HAX
          go_wp2_with fail
          refine HPX.out.mono ?_
          rintro e w6 ⟨⟨v', rfl, hx⟩, hb⟩
          obtain ⟨z1, k1, z2, k2, rfl, _, _, _, _⟩ := hx.open
          have hT6 : RT w6 T (.agg #[.int .i64 T.kind, .string T.cons, .slice z1 T.text.length k1, .slice z2 T.kids.length k2]) := RTo.weak (fun _ _ => trivial) hx
          have hn6 := (Below.refl w6.heap.size w6).alloc (Nat.le_refl _) (.cells #[.int .i64 T.kind, .string T.cons, .slice z1 T.text.length k1, .slice z2 T.kids.length k2] 25)
          have hbn := hb.trans (hn6.mono hb.size)
          have HB6a := hide (HB5a.out.trans (hbn.mono HB5a.out.size))
          have HS6a := hide (RT.below hbn HS5a.out)
          have HT6a := hide (RT.below hn6 hT6)
          have KT6a := hide (KT5a.out.below hbn)
          have KS6a := hide (KS5a.out.below hbn)
          have KN6a := hide (KN5a.out.below hbn)
          have KM6a := hide (Blk.new w6 #[.int .i64 T.kind, .string T.cons, .slice z1 T.text.length k1, .slice z2 T.kids.length k2] 25)
          clear hx hT6 hn6 hb hbn f0 f1 f2 f3 fl g0 g1 g2 g3 gl HX5a HO5a KT5a KS5a KN5a HPX HS5a
          go_wp2_with fail
          refine (HA.out _).mono ?_
          rintro e w7 ⟨rfl, hb⟩
          have HB7 := hide (HB6a.out.trans (hb.mono HB6a.out.size))
          have HS7 := hide (RT.below hb HS6a.out)
          have HT7 := hide (RT.below hb HT6a.out)
          have KT7 := hide (KT6a.out.below hb)
          have KM7 := hide (KM6a.out.below hb)
          have qs := KS6a.out.below hb
          have qn := KN6a.out.below hb
          have f0 := qs.cell 0
          have f1 := qs.cell 1
          have f2 := qs.cell 2
          have f3 := qs.cell 3
          have fl := qs.lt
          have g0 := qn.cell 0
          have g1 := qn.cell 1
          have g2 := qn.cell 2
          have g3 := qn.cell 3
          have gl := qn.lt
          have hSS : sameB S S = true := (sameB_eq S S).2 rfl
          have hTT : sameB T T = true := (sameB_eq T T).2 rfl
          have HR1 := hide (rsame_any S S _ _ _ HS7.out (HS.out _ HB7.out))
          rw [hSS] at HR1
          clear hb qs qn HS6a HT6a KT6a KS6a KN6a KM6a
          go_wp2_with fail
          refine HR1.out.mono ?_
          rintro e w8 ⟨rfl, hb⟩
          have HB8 := hide (HB7.out.trans (hb.mono HB7.out.size))
          have HR2 := hide (rsame_any T T _ _ _ (RT.below hb HT7.out) (HT.out _ HB8.out))
          rw [hTT] at HR2
          have qs := KT7.out.below hb
          have qn := KM7.out.below hb
          clear f0 f1 f2 f3 fl g0 g1 g2 g3 gl hb
          have f0 := qs.cell 0
          have f1 := qs.cell 1
          have f2 := qs.cell 2
          have f3 := qs.cell 3
          have fl := qs.lt
          have g0 := qn.cell 0
          have g1 := qn.cell 1
          have g2 := qn.cell 2
          have g3 := qn.cell 3
          have gl := qn.lt
          clear qs qn
          go_wp2_with fail
          refine HR2.out.mono ?_
          rintro e w9 ⟨rfl, hb⟩
          have HB9 := hide (HB8.out.trans (hb.mono HB8.out.size))
          clear hb f0 f1 f2 f3 fl g0 g1 g2 g3 gl
          go_wp2_with fail
          go_ret
          exact ⟨rfl, HB9.out⟩
end Go.Proofs.Ytfndldfnlncabaa
