/- The law LayoutFlat, walked. -/
import Derived.Test.YtcmhlfnmjpmjhaaLSame
import Derived.Test.YtcmhlfnmjpmjhaaFlat
set_option linter.unusedVariables false
set_option linter.unusedSimpArgs false
set_option linter.unnecessarySimpa false
set_option linter.deprecated false
namespace Go.Proofs.Ytcmhlfnmjpmjhaa
open Go.RowKit

theorem rd_grp1 {W : World} {n : Nat} {d : Dc} {a : Option Addr} {c : Nat} (h : Blk W n #[.int .i64 d.kind, .string d.text, .int .i64 d.num, .slice a d.kids.length c] 24) (hd : RD W d (.agg #[.int .i64 d.kind, .string d.text, .int .i64 d.num, .slice a d.kids.length c])) : RD W (grp1 d) (.agg #[.int .i64 5, .string emptyB, .int .i64 0, .slice (some ⟨n, 0, none⟩) 1 1]) := by
  have c1 := h.cell
  refine RDo.shut (by omega) (by decide) (by omega) ⟨by simp, fun _ => ⟨n, 0, rfl, trivial, h.lt, ?_⟩⟩ rfl
  refine RDos.of fun i hi => ?_
  match i, hi with
  | 0, _ => exact ⟨_, _, _, _, c1 0, c1 1, c1 2, c1 3, hd⟩
theorem cnt_grp1 (d : Dc) : cnt (grp1 d) = cnt d + 1 ∧ vol (grp1 d) = vol d := by
  unfold grp1
  constructor
  · simp [cnt, cntL]; omega
  · simp [vol, volL, show emptyB.size = 0 from rfl]
theorem flat_size (d : Dc) : (flatM d).1.size ≤ vol d := by
  unfold flatM
  split
  · split
    · exact Nat.zero_le _
    · have := leafs_vol d
      simpa [ByteArray.size] using this
  · exact Nat.zero_le _
theorem pair1 {w : World} {A B : Array Value} : Blk ((w.alloc (.cells A 24)).alloc (.cells B 24)) w.heap.size A 24 ∧ Blk ((w.alloc (.cells A 24)).alloc (.cells B 24)) (w.heap.size + 1) B 24 ∧ Below w.heap.size w ((w.alloc (.cells A 24)).alloc (.cells B 24)) := by
  refine ⟨(Blk.new w _ _).alloc _, ?_, ((Below.refl _ w).alloc (Nat.le_refl _) _).alloc (by simp) _⟩
  have := Blk.new (w.alloc (.cells A 24)) B 24
  rw [World.size_alloc] at this
  exact this

set_option maxHeartbeats 8000000 in
set_option maxRecDepth 100000 in
theorem law_flat (d : Dc) (more : Int) (v : Value) (w : World) (hT : RD w d v) (hw : -9223372036854775808 ≤ more ∧ more ≤ 9223372036854775807) :
    Calls Try.prog 8 #[v, .int .i64 more] w fun e w' => e = .returned (.bool true) ∧ Below w.heap.size w w' := by
  obtain ⟨a2, c2, rfl, hkd, htt, hnn, hks⟩ := hT.open
  have HT := hide (fun W (h : Below w.heap.size w W) => RD.below h hT)
  have hb0 := (Below.refl w.heap.size w).alloc (Nat.le_refl _) (.cells #[.int .i64 d.kind, .string d.text, .int .i64 d.num, .slice a2 d.kids.length c2] 24)
  have HB := hide hb0
  have HBX := hide (Blk.new w #[.int .i64 d.kind, .string d.text, .int .i64 d.num, .slice a2 d.kids.length c2] 24)
  have HH := hide (heavy_any d _ _ (HT.out _ hb0))
  have HA := hide (fun W => alive_any W)
  clear hT hks hb0
  go_enter Try.func8, Try.ntmps8
  cases hh : heavyB d with
  | true =>
    rw [hh] at HH
    go_wp2_with fail
    refine HH.out.mono ?_
    rintro e w1 ⟨rfl, h1⟩
    replace HB := hide (below_next HB.out h1)
    clear h1
    go_wp2_with fail
    refine (HA.out _).mono ?_
    rintro e w2 ⟨rfl, h2⟩
    replace HB := hide (below_next HB.out h2)
    clear h2
    go_wp2_with fail
    go_ret
    exact ⟨rfl, HB.out⟩
  | false =>
    rw [hh] at HH
    obtain ⟨hc7, hv7⟩ := of_heavy hh
    obtain ⟨⟨s, e1⟩, hr1⟩ : ∃ r, flatM d = r := ⟨_, rfl⟩
    have HF := hide hr1
    have HC0 := hide (fun W v h => Flat_any d v W h (by omega) (by omega))
    have HC5 := hide (fun W v h => Right_any (grp1 d) v W h (by rw [(cnt_grp1 d).1]; omega))
    have HC1 := hide (fun W v wd h h2 => Render_any (grp1 d) v wd W h (by rw [(cnt_grp1 d).1]; omega) (by rw [(cnt_grp1 d).2]; omega) h2)
    have HC2 := hide (fun W v wd h h2 => Broken_any (grp1 d) v wd W h (by rw [(cnt_grp1 d).1]; omega) (by rw [(cnt_grp1 d).2]; omega) h2)
    have hsz := flat_size d
    rw [hr1] at HC0 hsz
    have hsz2 : s.size ≤ 12000 := by have h : s.size ≤ vol d := hsz; omega
    have HV := hide (show vol d ≤ 65536 by omega)
    clear hr1 hc7 hv7 hh hsz
    go_wp2_with fail
    refine HH.out.mono ?_
    rintro e w1 ⟨rfl, h1⟩
    replace HB := hide (below_next HB.out h1)
    replace HBX := hide (HBX.out.below h1)
    clear h1 HH
    have b0 := HBX.out.cell 0
    have b1 := HBX.out.cell 1
    have b2 := HBX.out.cell 2
    have b3 := HBX.out.cell 3
    have bl := HBX.out.lt
    go_wp2_with fail
    refine (HC0.out _ _ (HT.out _ HB.out)).mono ?_
    rintro e w2 ⟨rfl, h1⟩
    replace HB := hide (below_next HB.out h1)
    replace HBX := hide (HBX.out.below h1)
    clear h1 HC0 b0 b1 b2 b3 bl
    have b0 := HBX.out.cell 0
    have b1 := HBX.out.cell 1
    have b2 := HBX.out.cell 2
    have b3 := HBX.out.cell 3
    have bl := HBX.out.lt
    go_upto_region 5 with fail
    have h4 := pair1 (w := w2) (A := #[.int .i64 d.kind, .string d.text, .int .i64 d.num, .slice a2 d.kids.length c2]) (B := #[.int .i64 5, .string emptyB, .int .i64 0, .slice (some ⟨w2.heap.size, 0, none⟩) 1 1])
    clear b0 b1 b2 b3 bl
    generalize hWW : ((w2.alloc (.cells #[.int .i64 d.kind, .string d.text, .int .i64 d.num, .slice a2 d.kids.length c2] 24)).alloc (.cells #[.int .i64 5, .string emptyB, .int .i64 0, .slice (some ⟨w2.heap.size, 0, none⟩) 1 1] 24)) = w3 at h4 ⊢
    clear hWW
    replace HB := hide (below_next HB.out h4.2.2)
    have H7 := hide h4.2.1
    have HG := hide (rd_grp1 h4.1 (HT.out _ HB.out))
    clear h4 HBX HT
    have z0 := H7.out.cell 0
    have z1 := H7.out.cell 1
    have z2 := H7.out.cell 2
    have z3 := H7.out.cell 3
    have zl := H7.out.lt
    by_cases he : e1 = 0
    · subst he
      cases hr : rtB 200 (grp1 d) with
      | false =>
        rw [hr] at HC5
        go_wp2_with fail
        refine (HC5.out _ _ HG.out).mono ?_
        rintro e w4 ⟨rfl, h1⟩
        replace HB := hide (below_next HB.out h1)
        clear h1
        go_wp2_with fail
        refine (HA.out _).mono ?_
        rintro e w5 ⟨rfl, h1⟩
        replace HB := hide (below_next HB.out h1)
        clear h1
        go_wp2_with fail
        go_ret
        exact ⟨rfl, HB.out⟩
      | true =>
        rw [hr] at HC5
        have HFG := hide (fun wd (h : (s.size : Int) ≤ wd) => (flat_grp d wd (by rw [HF.out]) hr HV.out (by rw [HF.out]; exact h)))
        rw [HF.out] at HFG
        clear hr
        go_upto_region 7 with (refine (HC5.out _ _ HG.out).mono ?_; rintro e w4 ⟨rfl, h1⟩)
        replace HB := hide (below_next HB.out h1)
        replace H7 := hide (H7.out.below h1)
        replace HG := hide (RD.below h1 HG.out)
        clear h1 z0 z1 z2 z3 zl HC5
        have z0 := H7.out.cell 0
        have z1 := H7.out.cell 1
        have z2 := H7.out.cell 2
        have z3 := H7.out.cell 3
        have zl := H7.out.lt
        by_cases h0 : (0 : Int) < more
        · by_cases h1 : more < (1000 : Int)
          · go_upto_region 10 with fail
            generalize hwd : (s.size : Int) + more = wd
            have hwd1 : (s.size : Int) ≤ wd := by omega
            have hwd2 : wd ≤ 100000 := by omega
            clear hwd
            obtain ⟨hq1, hq2⟩ := HFG.out wd hwd1
            have HX1 := hide (HC1.out _ _ wd HG.out (by omega))
            rw [hq1] at HX1
            have HX2 := hide (fun W v (h : RD W (grp1 d) v) => HC2.out W v wd h (by omega))
            rw [hq2] at HX2
            clear hq1 hq2 HC1 HC2
            go_wp2_with fail
            refine HX1.out.mono ?_
            rintro e w5 ⟨rfl, h1⟩
            replace HB := hide (below_next HB.out h1)
            replace H7 := hide (H7.out.below h1)
            replace HG := hide (RD.below h1 HG.out)
            clear h1 z0 z1 z2 z3 zl HX1
            have z0 := H7.out.cell 0
            have z1 := H7.out.cell 1
            have z2 := H7.out.cell 2
            have z3 := H7.out.cell 3
            have zl := H7.out.lt
            go_wp2_with fail
            refine (HX2.out _ _ HG.out).mono ?_
            rintro e w6 ⟨rfl, h1⟩
            replace HB := hide (below_next HB.out h1)
            clear h1 z0 z1 z2 z3 zl HX2 H7 HG
            have hlt : ¬ (65536 : Int) < (s.size : Int) := by omega
            go_wp2_with fail
            refine (HA.out _).mono ?_
            rintro e w7 ⟨rfl, h1⟩
            replace HB := hide (below_next HB.out h1)
            clear h1
            go_wp2_with fail
            go_ret
            exact ⟨rfl, HB.out⟩
          · go_upto_region 10 with fail
            obtain ⟨wd, hwd⟩ : ∃ wd, (s.size : Int) = wd := ⟨_, rfl⟩
            have hwd1 : (s.size : Int) ≤ wd := by omega
            have hwd2 : wd ≤ 100000 := by omega
            obtain ⟨hq1, hq2⟩ := HFG.out s.size (Int.le_refl _)
            have HX1 := hide (HC1.out _ _ (s.size : Int) HG.out (by omega))
            rw [hq1] at HX1
            have HX2 := hide (fun W v (h : RD W (grp1 d) v) => HC2.out W v (s.size : Int) h (by omega))
            rw [hq2] at HX2
            clear hwd hwd1 hwd2
            clear hq1 hq2 HC1 HC2
            go_wp2_with fail
            refine HX1.out.mono ?_
            rintro e w5 ⟨rfl, h1⟩
            replace HB := hide (below_next HB.out h1)
            replace H7 := hide (H7.out.below h1)
            replace HG := hide (RD.below h1 HG.out)
            clear h1 z0 z1 z2 z3 zl HX1
            have z0 := H7.out.cell 0
            have z1 := H7.out.cell 1
            have z2 := H7.out.cell 2
            have z3 := H7.out.cell 3
            have zl := H7.out.lt
            go_wp2_with fail
            refine (HX2.out _ _ HG.out).mono ?_
            rintro e w6 ⟨rfl, h1⟩
            replace HB := hide (below_next HB.out h1)
            clear h1 z0 z1 z2 z3 zl HX2 H7 HG
            have hlt : ¬ (65536 : Int) < (s.size : Int) := by omega
            go_wp2_with fail
            refine (HA.out _).mono ?_
            rintro e w7 ⟨rfl, h1⟩
            replace HB := hide (below_next HB.out h1)
            clear h1
            go_wp2_with fail
            go_ret
            exact ⟨rfl, HB.out⟩
        · go_upto_region 10 with fail
          obtain ⟨hq1, hq2⟩ := HFG.out s.size (Int.le_refl _)
          have HX1 := hide (HC1.out _ _ (s.size : Int) HG.out (by omega))
          rw [hq1] at HX1
          have HX2 := hide (fun W v (h : RD W (grp1 d) v) => HC2.out W v (s.size : Int) h (by omega))
          rw [hq2] at HX2
          clear hq1 hq2 HC1 HC2
          go_wp2_with fail
          refine HX1.out.mono ?_
          rintro e w5 ⟨rfl, h1⟩
          replace HB := hide (below_next HB.out h1)
          replace H7 := hide (H7.out.below h1)
          replace HG := hide (RD.below h1 HG.out)
          clear h1 z0 z1 z2 z3 zl HX1
          have z0 := H7.out.cell 0
          have z1 := H7.out.cell 1
          have z2 := H7.out.cell 2
          have z3 := H7.out.cell 3
          have zl := H7.out.lt
          go_wp2_with fail
          refine (HX2.out _ _ HG.out).mono ?_
          rintro e w6 ⟨rfl, h1⟩
          replace HB := hide (below_next HB.out h1)
          clear h1 z0 z1 z2 z3 zl HX2 H7 HG
          have hlt : ¬ (65536 : Int) < (s.size : Int) := by omega
          go_wp2_with fail
          refine (HA.out _).mono ?_
          rintro e w7 ⟨rfl, h1⟩
          replace HB := hide (below_next HB.out h1)
          clear h1
          go_wp2_with fail
          go_ret
          exact ⟨rfl, HB.out⟩
    · have m1 : (e1 == 0) = false := by rw [beq_eq_false_iff_ne]; exact he
      have m2 : (e1 != 0) = true := by rw [bne, m1]; rfl
      go_wp2_with fail
      refine (HA.out _).mono ?_
      rintro e w5 ⟨rfl, h1⟩
      replace HB := hide (below_next HB.out h1)
      clear h1
      go_wp2_with fail
      go_ret
      exact ⟨rfl, HB.out⟩
end Go.Proofs.Ytcmhlfnmjpmjhaa
