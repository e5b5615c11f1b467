/- The walk of CheckTwice. -/
import Derived.Test.YtalicfpcmcbdbaaZTwM
import Derived.Test.YtalicfpcmcbdbaaZCpW
import Derived.Test.YtalicfpcmcbdbaaZTurn
import Derived.Test.YtalicfpcmcbdbaaZOkD
import Derived.Test.YtalicfpcmcbdbaaZCons
import Derived.Deep.RegionHeld3
import Derived.StillTailTactics
import Derived.BigQuiet
import Derived.Outline
set_option linter.unusedVariables false
set_option linter.unusedSimpArgs false
set_option linter.unnecessarySimpa false
set_option linter.deprecated false
namespace Go.Proofs.Ytalicfpcmcbdbaa
open Go.RowKit

theorem zz_named : namedB ⟨#[90, 122, 57, 122, 90]⟩ false = true := by kernel_rfl
set_option maxHeartbeats 3200000 in
set_option maxRecDepth 100000 in
theorem lawTwice_any (d : Df) (a2 : Option Addr) (c2 : Nat) (a3 : Option Addr) (c3 : Nat) (a4 : Option Addr) (c4 : Nat) (a5 : Option Addr) (c5 : Nat) (a6 : Option Addr) (c6 : Nat) (y : Int) (w : World) (hd : RD d ⟨a2, c2, a3, c3, a4, c4, a5, c5, a6, c6⟩ w) (hn : -9223372036854775808 ≤ y ∧ y ≤ 9223372036854775807) : Calls Try.prog 7 #[.agg #[.string d.start, .string d.layout, .slice a2 d.prods.length c2, .slice a3 d.chains.length c3, .slice a4 d.follows.length c4, .slice a5 d.rejects.length c5, .slice a6 d.boxes.length c6], .int .i64 y] w fun e w' => e = .returned (.bool true) ∧ Below w.heap.size w w' := by
  obtain ⟨i38, hi38, hz38, hy38, hw38⟩ := info_parts info38
  obtain ⟨i53, hi53, hz53, hy53, hw53⟩ := info_parts info53
  have HYI := hide (show i64 y from hn)
  clear hn
  have HB0 := hide ((Below.refl w.heap.size w).alloc (Nat.le_refl _) (.cells #[.string d.start, .string d.layout, .slice a2 d.prods.length c2, .slice a3 d.chains.length c3, .slice a4 d.follows.length c4, .slice a5 d.rejects.length c5, .slice a6 d.boxes.length c6] 28))
  have HX0 := hide (Blk.new w #[.string d.start, .string d.layout, .slice a2 d.prods.length c2, .slice a3 d.chains.length c3, .slice a4 d.follows.length c4, .slice a5 d.rejects.length c5, .slice a6 d.boxes.length c6] 28)
  have HD := hide (hd.below HB0.out)
  have hl2 := hd.p.1
  clear hd
  go_enter Try.func7, Try.ntmps7
  go_upto_region 1 with fail
  obtain ⟨kx, hkx⟩ : ∃ kx, w.heap.size = kx := ⟨_, rfl⟩
  obtain ⟨w0, h1⟩ : ∃ w1, w.alloc (.cells #[.string d.start, .string d.layout, .slice a2 d.prods.length c2, .slice a3 d.chains.length c3, .slice a4 d.follows.length c4, .slice a5 d.rejects.length c5, .slice a6 d.boxes.length c6] 28) = w1 := ⟨_, rfl⟩
  rw [h1] at HD HB0 HX0 ⊢
  rw [hkx] at HX0 ⊢
  clear h1 hkx
  have x0 := HX0.out.cell 0
  have x1 := HX0.out.cell 1
  have x2 := HX0.out.cell 2
  have x3 := HX0.out.cell 3
  have x4 := HX0.out.cell 4
  have x5 := HX0.out.cell 5
  have x6 := HX0.out.cell 6
  have xl := HX0.out.lt
  have HHV := hide (heavy_any d a2 c2 a3 c3 a4 c4 a5 c5 a6 c6 w0 HD.out)
  go_wp2_with fail
  refine HHV.out.mono ?_
  rintro e w1 ⟨⟨hv, rfl, hsm⟩, hb1⟩
  have HB1 := hide (below_next HB0.out hb1)
  have HX1 := hide (HX0.out.below hb1)
  have HD1 := hide (HD.out.below hb1)
  clear HX0 HD HHV HB0 hb1 x0 x1 x2 x3 x4 x5 x6 xl
  clear w0
  cases hv with
  | true =>
    have HC := hide (alive_any w1)
    clear hsm
    go_wp2_with fail
    refine HC.out.mono ?_
    rintro e w2 ⟨rfl, hb2⟩
    have HB2 := hide (below_next HB1.out hb2)
    clear hb2
    go_wp2_with fail
    go_ret
    exact ⟨rfl, HB2.out⟩
  | false =>
    have HTOT := hide (hsm rfl)
    have HSM := hide (tot_small HTOT.out)
    clear hsm
    have x2 := HX1.out.cell 2
    have xl := HX1.out.lt
    by_cases h0 : d.prods.length = 0
    · have h0i : ((d.prods.length : Int) == 0) = true := by rw [h0]; rfl
      have HC := hide (alive_any w1)
      clear h0
      go_wp2_with fail
      refine HC.out.mono ?_
      rintro e w2 ⟨rfl, hb2⟩
      have HB2 := hide (below_next HB1.out hb2)
      clear hb2
      go_wp2_with fail
      go_ret
      exact ⟨rfl, HB2.out⟩
    · have h0i : ((d.prods.length : Int) == 0) = false := by
        rw [beq_eq_false_iff_ne]; omega
      by_cases h2 : 200 ≤ d.prods.length
      · have h2i : decide ((d.prods.length : Int) ≥ 200) = true := decide_eq_true (by omega)
        have HC := hide (alive_any w1)
        clear h0 h2
        go_wp2_with fail
        refine HC.out.mono ?_
        rintro e w2 ⟨rfl, hb2⟩
        have HB2 := hide (below_next HB1.out hb2)
        clear hb2
        go_wp2_with fail
        go_ret
        exact ⟨rfl, HB2.out⟩
      · have h2i : decide ((d.prods.length : Int) ≥ 200) = false := decide_eq_false (by omega)
        have HL := hide (show 0 < d.prods.length ∧ d.prods.length < 200 by omega)
        have HCK1 := hide (Check_any d a2 c2 a3 c3 a4 c4 a5 c5 a6 c6 w1 HD1.out HSM.out)
        obtain ⟨z1, n1, hz1⟩ : ∃ z1 n1, checkL d = (z1, n1) := ⟨_, _, rfl⟩
        have HZ1 := hide (show z1 = 0 ↔ OkD d by rw [← check_ok, hz1])
        rw [hz1] at HCK1
        have x0 := HX1.out.cell 0
        have x1 := HX1.out.cell 1
        have x3 := HX1.out.cell 3
        have x4 := HX1.out.cell 4
        have x5 := HX1.out.cell 5
        have x6 := HX1.out.cell 6
        clear h0 h2 hz1
        go_wp2_with fail
        refine HCK1.out.mono ?_
        rintro e w2 ⟨rfl, hb2⟩
        have HB2 := hide (below_next HB1.out hb2)
        have HX2 := hide (HX1.out.below hb2)
        have HD2 := hide (HD1.out.below hb2)
        clear hb2 x0 x1 x2 x3 x4 x5 x6 xl HX1 HD1 HB1 HCK1 h0i h2i
        clear w1
        by_cases hz : z1 = 0
        · have HOK := hide (HZ1.out.1 hz)
          have hz1 : (z1 != 0) = false := by simpa using hz
          clear hz
          have HFIT := hide (tot_fit HTOT.out HOK.out.fit)
          have hnz : ¬ (d.prods.length : Int) = 0 := by have := HL.out.1; omega
          obtain ⟨b, hbn, hbz⟩ : ∃ b : Nat, b < d.prods.length ∧ (wrap64 (y.tmod (d.prods.length : Int) + (d.prods.length : Int))).tmod (d.prods.length : Int) = (b : Int) := by
            have hy2 : -9223372036854775808 ≤ y ∧ y ≤ 9223372036854775807 := HYI.out
            have hl := HL.out
            have hpos : (0 : Int) < (d.prods.length : Int) := by omega
            have h1 : y.tmod (d.prods.length : Int) < (d.prods.length : Int) := Int.tmod_lt_of_pos y hpos
            have h2 : -(d.prods.length : Int) < y.tmod (d.prods.length : Int) := tmod_gt y hpos
            have h3 : wrap64 (y.tmod (d.prods.length : Int) + (d.prods.length : Int)) = y.tmod (d.prods.length : Int) + (d.prods.length : Int) := by unfold wrap64; omega
            rw [h3]
            have h4 : 0 ≤ (y.tmod (d.prods.length : Int) + (d.prods.length : Int)).tmod (d.prods.length : Int) := Int.tmod_nonneg _ (by omega)
            have h5 : (y.tmod (d.prods.length : Int) + (d.prods.length : Int)).tmod (d.prods.length : Int) < (d.prods.length : Int) := Int.tmod_lt_of_pos _ hpos
            exact ⟨((y.tmod (d.prods.length : Int) + (d.prods.length : Int)).tmod (d.prods.length : Int)).toNat, by omega, by omega⟩
          have HBN := hide hbn
          clear hbn
          have x2 := HX2.out.cell 2
          have xl := HX2.out.lt
          go_upto_region 6 with fail
          go_quiet (fail)
          obtain ⟨w3, h3⟩ : ∃ w3, w2.drewN nq = w3 := ⟨_, rfl⟩
          have hb3 : Below w2.heap.size w2 w3 := by rw [← h3]; exact ⟨rfl, rfl, rfl, Nat.le_refl _, fun _ _ => rfl⟩
          rw [h3]
          clear h3
          have HB3 := hide (below_next HB2.out hb3)
          have HX3 := hide (HX2.out.below hb3)
          have HD3 := hide (HD2.out.below hb3)
          have HBNi := hide hbz
          clear hb3 x2 xl hnz hbz HX2 HD2 HB2
          clear w2
          have HC3 := hide (Copy_any d a2 c2 a3 c3 a4 c4 a5 c5 a6 c6 w3 HD3.out HFIT.out)
          have x0 := HX3.out.cell 0
          have x1 := HX3.out.cell 1
          have x2 := HX3.out.cell 2
          have x3 := HX3.out.cell 3
          have x4 := HX3.out.cell 4
          have x5 := HX3.out.cell 5
          have x6 := HX3.out.cell 6
          have xl := HX3.out.lt
          go_wp2_with fail
          refine HC3.out.mono ?_
          rintro e w4 ⟨vP, vC, vF, vR, vB, cP, cC, cF, cR, cB, rfl, hcp, hb4⟩
          have HCP4 := hide hcp.out
          have HB34 := hide hb4
          clear hcp hb4 x0 x1 x2 x3 x4 x5 x6 xl HC3
          obtain ⟨a22, c22, a23, c23, a24, c24, a25, c25, a26, c26, rfl, rfl, rfl, rfl, rfl, hrd⟩ := HCP4.out.rd HFIT.out HD3.out.s HD3.out.l
          clear hrd
          obtain ⟨g, cap, cs, hv, hBg, hgl, hca, hcl5, vs, rfl, hpok, hsok, hown⟩ := HCP4.out.p.at HBN.out
          injection hv with hv1 hv2 hv3
          subst hv1 hv3
          obtain ⟨as_, cs_, rfl, _⟩ := own_shape hown
          have HPM := hide (List.getElem_mem HBN.out)
          have HCA := hide hca
          have HEP := hide (show EP (d.prods[b]'HBN.out) _ w4 from ⟨_, rfl, hpok, hsok, hown⟩)
          obtain ⟨pb, hpb⟩ : ∃ pb, d.prods[b]'HBN.out = pb := ⟨_, rfl⟩
          have HPB := hide hpb
          rw [hpb] at HPM HCA HEP hown
          clear hca hcl5 hpok hsok hv2 hBg hpb
          go_upto_region 8 with fail
          obtain ⟨d2, hd2⟩ : ∃ d2 : Df, d2 = (⟨d.start, d.layout, d.prods ++ [pb], d.chains, d.follows, d.rejects, d.boxes⟩ : Df) := ⟨_, rfl⟩
          have HFIT2 := hide (show FitD d2 by rw [hd2]; exact fit_dup HTOT.out HOK.out.fit HPM.out)
          have HV2 := hide (show (pb.lex = true ∨ pb.bracket = true → (checkL d2).1 = 0) ∧ (pb.lex = false → pb.bracket = false → checkL d2 = (45, pb.cons)) by
            rw [hd2]
            exact ⟨fun h => (check_ok _).2 (HOK.out.dup HPM.out HL.out.2 h), fun h1 h2 => dup_cons HOK.out HPM.out HL.out.2 h1 h2⟩)
          have HE2 := hide hd2
          have HSS := hide (show short d2.start ∧ short d2.layout by rw [hd2]; exact ⟨HD3.out.s, HD3.out.l⟩)
          clear hd2
          obtain ⟨ky, hky⟩ : ∃ ky, w4.heap.size = ky := ⟨_, rfl⟩
          obtain ⟨w5, h5⟩ : ∃ w5, w4.alloc (.cells #[.string d.start, .string d.layout, .slice (some ⟨g, 0, none⟩) d.prods.length c22, .slice a23 d.chains.length c23, .slice a24 d.follows.length c24, .slice a25 d.rejects.length c25, .slice a26 d.boxes.length c26] 28) = w5 := ⟨_, rfl⟩
          have HB45 := hide (show Below w4.heap.size w4 w5 by rw [← h5]; exact NB.alloc (Below.refl _ _) _)
          have HY5 := hide (show Blk w5 ky #[.string d.start, .string d.layout, .slice (some ⟨g, 0, none⟩) d.prods.length c22, .slice a23 d.chains.length c23, .slice a24 d.follows.length c24, .slice a25 d.rejects.length c25, .slice a26 d.boxes.length c26] 28 by rw [← h5, ← hky]; exact Blk.new w4 _ _)
          have HKY := hide (show w3.heap.size ≤ ky by rw [← hky]; exact HB34.out.size)
          rw [h5, hky]
          clear h5 hky
          have HGL := hide hgl
          clear hgl hown
          go_cut [] from 53 to 63 (fun wc => ∃ a2 c2 a3 c3 a4 c4 a5 c5 a6 c6, Hid (Below w3.heap.size w3 wc ∧ Blk wc ky #[.string d2.start, .string d2.layout, .slice a2 d2.prods.length c2, .slice a3 d2.chains.length c3, .slice a4 d2.follows.length c4, .slice a5 d2.rejects.length c5, .slice a6 d2.boxes.length c6] 28 ∧ RD d2 ⟨a2, c2, a3, c3, a4, c4, a5, c5, a6, c6⟩ wc))
          case first =>
            have HCP5 := hide (HCP4.out.below HB45.out)
            have y2 := HY5.out.cell 2
            have yl := HY5.out.lt
            have hca5 : CellsAt _ g (b * 5) w5 := fun j u hj => (HB45.out.cell (p := ⟨g, b * 5 + j, none⟩) HGL.out).trans (HCA.out j u hj)
            have e0 := hca5 0 _ rfl
            have e1 := hca5 1 _ rfl
            have e2 := hca5 2 _ rfl
            have e3 := hca5 3 _ rfl
            have e4 := hca5 4 _ rfl
            rw [Nat.add_zero] at e0
            have hgl5 : g < w5.heap.size := Nat.lt_of_lt_of_le HGL.out HB45.out.size
            have hbi : (b : Int) < (d.prods.length : Int) := by have := HBN.out; omega
            have hbn : b < d.prods.length := HBN.out
            have hpl : cP.length = d.prods.length := HCP5.out.p.len
            have HOWN := hide (show w5.ownsRow w3.heap.size 38 5 (.slice (some ⟨g, 0, none⟩) d.prods.length c22) d.prods.length cP.flatten by
              have h := HCP5.out.p.own
              rw [hpl] at h
              exact h)
            have hpl2 : d.prods.length < 200 := HL.out.2
            have hbs : w3.heap.size ≤ w5.heap.size := Nat.le_trans HB34.out.size HB45.out.size
            have HST := hide (show ∀ v' wz, wz.ownsRow w3.heap.size 38 5 v' (d.prods.length + 1) (cP.flatten ++ [.bool pb.lex, .string pb.sort, .string pb.cons, .bool pb.bracket, .slice as_ pb.syms.length cs_]) → (w5.drew.alloc (.cells #[.bool pb.lex, .string pb.sort, .string pb.cons, .bool pb.bracket, .slice as_ pb.syms.length cs_] 38)).grownBy wz (some g) → Blk wz ky #[.string d.start, .string d.layout, .slice (some ⟨g, 0, none⟩) d.prods.length c22, .slice a23 d.chains.length c23, .slice a24 d.follows.length c24, .slice a25 d.rejects.length c25, .slice a26 d.boxes.length c26] 28 ∧ (∃ a2 c2 a3 c3 a4 c4 a5 c5 a6 c6, Hid (Below w3.heap.size w3 (wz.setCell ⟨ky, 2, none⟩ v') ∧ Blk (wz.setCell ⟨ky, 2, none⟩ v') ky #[.string d2.start, .string d2.layout, .slice a2 d2.prods.length c2, .slice a3 d2.chains.length c3, .slice a4 d2.follows.length c4, .slice a5 d2.rejects.length c5, .slice a6 d2.boxes.length c6] 28 ∧ RD d2 ⟨a2, c2, a3, c3, a4, c4, a5, c5, a6, c6⟩ (wz.setCell ⟨ky, 2, none⟩ v'))) from fun v' wz ho hg => by
              have hbw : Below w5.heap.size w5 (w5.drew.alloc (.cells #[.bool pb.lex, .string pb.sort, .string pb.cons, .bool pb.bracket, .slice as_ pb.syms.length cs_] 38)) := (Below.refl w5.heap.size w5).drew.alloc (by simp) _
              rw [← hpl] at ho
              obtain ⟨h1, h2, h3⟩ := HCP5.out.pushP hbw ho hg rfl (EP.st (t := 28) (by decide) _ _ _ _ (Touch.of_below (below_next HB45.out hbw)) HEP.out) HY5.out
              refine ⟨h1, ?_⟩
              have hE := HE2.out
              obtain ⟨a2, c2, a3, c3, a4, c4, a5, c5, a6, c6, e2, e3, e4, e5, e6, hrd⟩ := h3.rd (by rw [← hE]; exact HFIT2.out) HD3.out.s HD3.out.l
              refine ⟨a2, c2, a3, c3, a4, c4, a5, c5, a6, c6, hide ⟨?_, ?_, by rw [hE]; exact hrd⟩⟩
              · have hb6 : Below w3.heap.size w3 (w5.drew.alloc (.cells #[.bool pb.lex, .string pb.sort, .string pb.cons, .bool pb.bracket, .slice as_ pb.syms.length cs_] 38)) := below_next HB34.out (below_next HB45.out hbw)
                exact (hb6.grown hg hb6.size (fun g' e => by have := own_block_ge HOWN.out g' e; exact this)).setCell (by have := HKY.out; simp only; omega) _
              · have : (#[.string d2.start, .string d2.layout, .slice a2 d2.prods.length c2, .slice a3 d2.chains.length c3, .slice a4 d2.follows.length c4, .slice a5 d2.rejects.length c5, .slice a6 d2.boxes.length c6] : Array Value) = (#[.string d.start, .string d.layout, .slice (some ⟨g, 0, none⟩) d.prods.length c22, .slice a23 d.chains.length c23, .slice a24 d.follows.length c24, .slice a25 d.rejects.length c25, .slice a26 d.boxes.length c26]).setIfInBounds 2 v' := by
                  rw [hE, e2, e3, e4, e5, e6]; rfl
                rw [this]; exact h2)
            clear hca5 hpl
            go_region_law (refine step_append_own rfl (.tmp 54) (.tmp 60) 22 rfl w3.heap.size 38 i38 _ 5 72 Try.underlying22 hi38 hz38 hy38 hw38 rfl (by decide) (.slice (some ⟨g, 0, none⟩) d.prods.length c22) d.prods.length cP.flatten (by simp [Act.eval, Act.put]) (own_below HOWN.out ((Below.refl w5.heap.size w5).drew.alloc (by simp) _)) ⟨w5.heap.size, 0, none⟩ 1 1 [.bool pb.lex, .string pb.sort, .string pb.cons, .bool pb.bracket, .slice as_ pb.syms.length cs_] (by simp [Act.eval, Act.put]) rfl (cells_new _ [.bool pb.lex, .string pb.sort, .string pb.cons, .bool pb.bracket, .slice as_ pb.syms.length cs_] 38) (by simp [Value.oneCell']) (by unfold maxLen; omega) (by omega) (by simp; omega) ?_; intro v' wz hown' hgrow hnil hatt; obtain ⟨hyz, hts⟩ := HST.out _ _ hown' hgrow; obtain ⟨g', cap', rfl⟩ := ownsRow_succ hown'; have HTN := hide hts; have z2 := hyz.cell 2; have zl := hyz.lt; have zf := hyz.free 2; clear hown' hgrow hnil hatt hyz hts)
            all_goals
              go_wp2_with fail
              go_meet
              exact HTN.out
          case rest =>
            obtain ⟨a32, c32, a33, c33, a34, c34, a35, c35, a36, c36, hc⟩ := hcut
            have HB36 := hide hc.out.1
            have HY6 := hide hc.out.2.1
            have HR6 := hide hc.out.2.2
            have HX6 := hide (HX3.out.below HB36.out)
            have HD6 := hide (HD3.out.below HB36.out)
            have HB6 := hide (below_next HB3.out HB36.out)
            clear hc HCP4 HB34 HB45 HY5 HCA HEP HKY HGL HX3 HD3 HB3 HB36
            obtain ⟨z2, n2, hz2⟩ : ∃ z2 n2, checkL d2 = (z2, n2) := ⟨_, _, rfl⟩
            have HCK2 := hide (Check_any d2 a32 c32 a33 c33 a34 c34 a35 c35 a36 c36 wc HR6.out HFIT2.out.s)
            rw [hz2] at HCK2 HV2
            clear hz2
            have y0 := HY6.out.cell 0
            have y1 := HY6.out.cell 1
            have y2 := HY6.out.cell 2
            have y3 := HY6.out.cell 3
            have y4 := HY6.out.cell 4
            have y5 := HY6.out.cell 5
            have y6 := HY6.out.cell 6
            have yl := HY6.out.lt
            go_wp2_with fail
            refine HCK2.out.mono ?_
            rintro e w7 ⟨rfl, hb7⟩
            have HX7 := hide (HX6.out.below hb7)
            have HD7 := hide (HD6.out.below hb7)
            have HB7 := hide (below_next HB6.out hb7)
            clear hb7 y0 y1 y2 y3 y4 y5 y6 yl HY6 HR6 HCK2 HX6 HD6 HB6 HFIT2 HSS HE2
            have hbi : (b : Int) < (d.prods.length : Int) := by have := HBN.out; omega
            have hbn : b < d.prods.length := HBN.out
            obtain ⟨bp, op, rfl, hbp, hatp⟩ := HD7.out.p.get HBN.out
            have hx1 := hatp b HBN.out
            rw [HPB.out] at hx1
            obtain ⟨hok, ap, cp, hca, hrw, hcp⟩ := hx1
            have e0 := hca 0 _ rfl
            have e1 := hca 1 _ rfl
            have e2 := hca 2 _ rfl
            have e3 := hca 3 _ rfl
            have e4 := hca 4 _ rfl
            rw [Nat.add_zero] at e0
            clear hatp hok hca hrw hcp
            have x2 := HX7.out.cell 2
            have xl := HX7.out.lt
            go_upto_region 12 with fail
            obtain ⟨kp, hkp⟩ : ∃ kp, w7.heap.size = kp := ⟨_, rfl⟩
            obtain ⟨w8, h8⟩ : ∃ w8, w7.alloc (.cells #[.bool pb.lex, .string pb.sort, .string pb.cons, .bool pb.bracket, .slice ap pb.syms.length cp] 38) = w8 := ⟨_, rfl⟩
            have hb8 : Below w7.heap.size w7 w8 := by rw [← h8]; exact NB.alloc (Below.refl _ _) _
            have HP8 := hide (show Blk w8 kp #[.bool pb.lex, .string pb.sort, .string pb.cons, .bool pb.bracket, .slice ap pb.syms.length cp] 38 by rw [← h8, ← hkp]; exact Blk.new w7 _ _)
            rw [h8, hkp]
            have HX8 := hide (HX7.out.below hb8)
            have HD8 := hide (HD7.out.below hb8)
            have HB8 := hide (below_next HB7.out hb8)
            clear h8 hkp hb8 x2 xl e0 e1 e2 e3 e4 hbp HX7 HD7 HB7 hbi hbn
            clear w7
            obtain ⟨tt, htt⟩ : ∃ tt, (!pb.lex && !pb.bracket) = tt := ⟨_, rfl⟩
            have HTT := hide htt
            clear htt
            go_cut [80] from 73 to 81 (fun v80 wc => v80 = .bool tt ∧ w8 = wc)
            case first =>
              have p0 := HP8.out.cell 0
              have p3 := HP8.out.cell 3
              have pl := HP8.out.lt
              have htt := HTT.out
              obtain ⟨lx, hlx⟩ : ∃ lx, pb.lex = lx := ⟨_, rfl⟩
              obtain ⟨br, hbr⟩ : ∃ br, pb.bracket = br := ⟨_, rfl⟩
              rw [hlx] at p0
              rw [hbr] at p3
              rw [hlx, hbr] at htt
              clear hlx hbr
              cases lx
              · cases br
                · obtain rfl : true = tt := htt
                  go_wp2_with fail
                  go_meet
                  exact ⟨rfl, rfl⟩
                · obtain rfl : false = tt := htt
                  go_wp2_with fail
                  go_meet
                  exact ⟨rfl, rfl⟩
              · obtain rfl : false = tt := by cases br <;> exact htt
                go_wp2_with fail
                go_meet
                exact ⟨rfl, rfl⟩
            case rest =>
             obtain ⟨rfl, rfl⟩ := hcut
             go_upto_if 80 with fail
             go_cut [11] from 81 to 81 (fun v11 wc => v11 = .int .i64 z2 ∧ w8 = wc)
             case first =>
              have htt := HTT.out
              cases tt with
              | true =>
                have h := HV2.out.2 (by simp at htt; exact htt.1) (by simp at htt; exact htt.2)
                obtain rfl : z2 = 45 := congrArg Prod.fst h
                clear h htt
                go_wp2_with fail
                go_meet
                exact ⟨rfl, rfl⟩
              | false =>
                obtain rfl : z2 = 0 := HV2.out.1 (by cases h1 : pb.lex <;> cases h2 : pb.bracket <;> simp_all)
                clear htt
                go_wp2_with fail
                go_meet
                exact ⟨rfl, rfl⟩
             case rest =>
               obtain ⟨rfl, rfl⟩ := hcut
               have HZ2 := hide (show z2 = 0 ∨ n2 = pb.cons by
                 cases h1 : pb.lex
                 · cases h2 : pb.bracket
                   · exact Or.inr (congrArg Prod.snd (HV2.out.2 h1 h2))
                   · exact Or.inl (HV2.out.1 (Or.inr h2))
                 · exact Or.inl (HV2.out.1 (Or.inl h1)))
               clear HV2
               have HC3 := hide (Copy_any d (some ⟨bp, op, none⟩) c2 a3 c3 a4 c4 a5 c5 a6 c6 w8 HD8.out HFIT.out)
               have x0 := HX8.out.cell 0
               have x1 := HX8.out.cell 1
               have x2 := HX8.out.cell 2
               have x3 := HX8.out.cell 3
               have x4 := HX8.out.cell 4
               have x5 := HX8.out.cell 5
               have x6 := HX8.out.cell 6
               have xl := HX8.out.lt
               go_wp2_with fail
               refine HC3.out.mono ?_
               rintro e w9 ⟨vP, vC, vF, vR, vB, cP2, cC2, cF2, cR2, cB2, rfl, hcp, hb9⟩
               have HCP9 := hide hcp.out
               have HB89 := hide hb9
               clear hcp hb9 x0 x1 x2 x3 x4 x5 x6 xl HC3
               obtain ⟨a42, c42, a43, c43, a44, c44, a45, c45, a46, c46, rfl, rfl, rfl, rfl, rfl, hrd⟩ := HCP9.out.rd HFIT.out HD8.out.s HD8.out.l
               clear hrd
               go_upto_region 15 with fail
               obtain ⟨d3, hd3⟩ : ∃ d3 : Df, d3 = (⟨d.start, d.layout, d.prods, d.chains, d.follows, d.rejects, d.boxes ++ [⟨⟨#[90, 122, 57, 122, 90]⟩, []⟩]⟩ : Df) := ⟨_, rfl⟩
               have HFIT3 := hide (show FitD d3 by rw [hd3]; exact fit_box HTOT.out HOK.out.fit _)
               have HV3 := hide (show consIdx d.prods ⟨#[90, 122, 57, 122, 90]⟩ < 0 → (checkL d3).1 = 52 by rw [hd3]; exact fun h => dup_box HOK.out zz_named h)
               have HE3 := hide hd3
               clear hd3
               obtain ⟨kq, hkq⟩ : ∃ kq, w9.heap.size = kq := ⟨_, rfl⟩
               obtain ⟨w10, h10⟩ : ∃ w10, w9.alloc (.cells #[.string d.start, .string d.layout, .slice a42 d.prods.length c42, .slice a43 d.chains.length c43, .slice a44 d.follows.length c44, .slice a45 d.rejects.length c45, .slice a46 d.boxes.length c46] 28) = w10 := ⟨_, rfl⟩
               have HB910 := hide (show Below w9.heap.size w9 w10 by rw [← h10]; exact NB.alloc (Below.refl _ _) _)
               have HQ10 := hide (show Blk w10 kq #[.string d.start, .string d.layout, .slice a42 d.prods.length c42, .slice a43 d.chains.length c43, .slice a44 d.follows.length c44, .slice a45 d.rejects.length c45, .slice a46 d.boxes.length c46] 28 by rw [← h10, ← hkq]; exact Blk.new w9 _ _)
               have HKQ := hide (show w8.heap.size ≤ kq by rw [← hkq]; exact HB89.out.size)
               rw [h10, hkq]
               clear h10 hkq
               have HCP10 := hide (HCP9.out.below HB910.out)
               have q6 := HQ10.out.cell 6
               have ql := HQ10.out.lt
               have hpl : cB2.length = d.boxes.length := HCP10.out.b.len
               have HOWN := hide (show w10.ownsRow w8.heap.size 53 2 (.slice a46 d.boxes.length c46) d.boxes.length cB2.flatten by
                 have h := HCP10.out.b.own
                 rw [hpl] at h
                 exact h)
               have HPL := hide hpl
               have hbl := HSM.out.bl
               have hbs : w8.heap.size ≤ w10.heap.size := Nat.le_trans HB89.out.size HB910.out.size
               clear hpl
               go_wp2_with (at_builtin; refine wpList_append_own _ rfl _ _ 26 rfl w8.heap.size 53 i53 _ 2 40 Try.underlying26 hi53 hz53 hy53 hw53 rfl (by decide) _ _ cB2.flatten rfl (HOWN.out.alloc _) ⟨w10.heap.size, 0, none⟩ 1 1 [.string ⟨#[90, 122, 57, 122, 90]⟩, .slice none 0 0] rfl rfl (cells_new _ [.string ⟨#[90, 122, 57, 122, 90]⟩, .slice none 0 0] 53) (by simp [Value.oneCell']) (by unfold maxLen; omega) (by omega) (by simp; omega) ?_)
               intro v' w11 hown' hgrow _
               have HST := hide (show Blk w11 kq #[.string d.start, .string d.layout, .slice a42 d.prods.length c42, .slice a43 d.chains.length c43, .slice a44 d.follows.length c44, .slice a45 d.rejects.length c45, .slice a46 d.boxes.length c46] 28 ∧ (∃ a2 c2 a3 c3 a4 c4 a5 c5 a6 c6, Hid (Below w8.heap.size w8 (w11.setCell ⟨kq, 6, none⟩ v') ∧ Blk (w11.setCell ⟨kq, 6, none⟩ v') kq #[.string d3.start, .string d3.layout, .slice a2 d3.prods.length c2, .slice a3 d3.chains.length c3, .slice a4 d3.follows.length c4, .slice a5 d3.rejects.length c5, .slice a6 d3.boxes.length c6] 28 ∧ RD d3 ⟨a2, c2, a3, c3, a4, c4, a5, c5, a6, c6⟩ (w11.setCell ⟨kq, 6, none⟩ v'))) by
                 have hbw : Below w10.heap.size w10 (w10.alloc (.cells #[.string ⟨#[90, 122, 57, 122, 90]⟩, .slice none 0 0] 53)) := NB.alloc (Below.refl _ _) _
                 rw [← HPL.out] at hown'
                 obtain ⟨h1, h2, h3⟩ := HCP10.out.pushB hbw hown' hgrow rfl (x := ⟨⟨#[90, 122, 57, 122, 90]⟩, []⟩) ⟨_, [], rfl, short_lit _, OwnE.nil _ _ _ _⟩ HQ10.out
                 refine ⟨h1, ?_⟩
                 have hE := HE3.out
                 obtain ⟨a2, c2, a3, c3, a4, c4, a5, c5, a6, c6, e2, e3, e4, e5, e6, hrd⟩ := h3.rd (by rw [← hE]; exact HFIT3.out) HD8.out.s HD8.out.l
                 refine ⟨a2, c2, a3, c3, a4, c4, a5, c5, a6, c6, hide ⟨?_, ?_, by rw [hE]; exact hrd⟩⟩
                 · have hb6 := below_next HB89.out (below_next HB910.out hbw)
                   exact (hb6.grown hgrow hb6.size (fun g' e => own_block_ge HOWN.out g' e)).setCell (by have := HKQ.out; simp only; omega) _
                 · have : (#[.string d3.start, .string d3.layout, .slice a2 d3.prods.length c2, .slice a3 d3.chains.length c3, .slice a4 d3.follows.length c4, .slice a5 d3.rejects.length c5, .slice a6 d3.boxes.length c6] : Array Value) = (#[.string d.start, .string d.layout, .slice a42 d.prods.length c42, .slice a43 d.chains.length c43, .slice a44 d.follows.length c44, .slice a45 d.rejects.length c45, .slice a46 d.boxes.length c46]).setIfInBounds 6 v' := by
                     rw [hE, e2, e3, e4, e5, e6]; rfl
                   rw [this]; exact h2)
               obtain ⟨g', cap', rfl⟩ := ownsRow_succ hown'
               have r6 := HST.out.1.cell 6
               have rl := HST.out.1.lt
               have rf := HST.out.1.free 6
               have HTN := hide HST.out.2
               clear hown' hgrow HST q6 ql HOWN HPL hbl hbs
               go_upto_region 16 with fail
               generalize w11.setCell _ _ = w12 at HTN ⊢
               obtain ⟨a52, c52, a53, c53, a54, c54, a55, c55, a56, c56, hc⟩ := HTN.out
               have HB812 := hide hc.out.1
               have HQ12 := hide hc.out.2.1
               have HR12 := hide hc.out.2.2
               have HX12 := hide (HX8.out.below HB812.out)
               have HD12 := hide (HD8.out.below HB812.out)
               have HP12 := hide (HP8.out.below HB812.out)
               have HB12 := hide (below_next HB8.out HB812.out)
               clear hc HTN r6 rl rf HX8 HD8 HP8 HB8 HB812 HCP9 HCP10 HB89 HB910 HQ10 HKQ HE3
               obtain ⟨z3, n3, hz3⟩ : ∃ z3 n3, checkL d3 = (z3, n3) := ⟨_, _, rfl⟩
               have HCK3 := hide (Check_any d3 a52 c52 a53 c53 a54 c54 a55 c55 a56 c56 w12 HR12.out HFIT3.out.s)
               rw [hz3] at HCK3 HV3
               clear hz3
               have y0 := HQ12.out.cell 0
               have y1 := HQ12.out.cell 1
               have y2 := HQ12.out.cell 2
               have y3 := HQ12.out.cell 3
               have y4 := HQ12.out.cell 4
               have y5 := HQ12.out.cell 5
               have y6 := HQ12.out.cell 6
               have yl := HQ12.out.lt
               go_wp2_with fail
               refine HCK3.out.mono ?_
               rintro e w13 ⟨rfl, hb13⟩
               clear y0 y1 y2 y3 y4 y5 y6 yl HQ12 HCK3 HR12
               have HC := hide (alive_any w13)
               go_wp2_with fail
               refine HC.out.mono ?_
               rintro e w14 ⟨rfl, hb14⟩
               have hb := below_next hb13 hb14
               have HX14 := hide (HX12.out.below hb)
               have HD14 := hide (HD12.out.below hb)
               have HP14 := hide (HP12.out.below hb)
               have HB14 := hide (below_next HB12.out hb)
               clear hb hb13 hb14 HX12 HD12 HP12 HB12 HC
               have x0 := HX14.out.cell 0
               have x1 := HX14.out.cell 1
               have x2 := HX14.out.cell 2
               have x3 := HX14.out.cell 3
               have x4 := HX14.out.cell 4
               have x5 := HX14.out.cell 5
               have x6 := HX14.out.cell 6
               have xl := HX14.out.lt
               have p2 := HP14.out.cell 2
               have pl := HP14.out.lt
               have hzz : (z2 == z2) = true := by simp
               have hor := HZ2.out
               by_cases hz0 : z2 = 0
               all_goals
                 first
                 | (have hzb : (z2 == 0) = true := beq_iff_eq.2 hz0; have hnn : True := trivial)
                 | (have hzb : (z2 == 0) = false := beq_eq_false_iff_ne.2 hz0; have hnn : (n2.toList == pb.cons.toList) = true := by (rw [hor.resolve_left hz0]; simp))
                 clear hz0 hor
                 by_cases h52 : z3 = 52
                 · have h5b : (z3 == 52) = true := beq_iff_eq.2 h52
                   clear h52
                   go_wp2_with fail
                   go_ret
                   exact ⟨rfl, HB14.out⟩
                 · have h5b : (z3 == 52) = false := beq_eq_false_iff_ne.2 h52
                   obtain ⟨ci, hci⟩ : ∃ ci, consIdx d.prods ⟨#[90, 122, 57, 122, 90]⟩ = ci := ⟨_, rfl⟩
                   have hge : decide (ci ≥ 0) = true := decide_eq_true (by
                     rcases Int.lt_or_le ci 0 with h | h
                     · exact absurd (HV3.out (by rw [hci]; exact h)) h52
                     · exact h)
                   have HC21 := hide (Cons_at d (some ⟨bp, op, none⟩) c2 a3 c3 a4 c4 a5 c5 a6 c6 ⟨#[90, 122, 57, 122, 90]⟩ w14 HD14.out.p)
                   rw [hci] at HC21
                   clear h52 hci
                   go_wp2_with fail
                   refine HC21.out.mono ?_
                   rintro e w15 ⟨rfl, hb15⟩
                   have HB15 := hide (below_next HB14.out hb15)
                   clear hb15
                   go_wp2_with fail
                   go_ret
                   exact ⟨rfl, HB15.out⟩
        · have hz1 : (z1 != 0) = true := by simpa using hz
          have HC := hide (alive_any w2)
          clear hz
          go_wp2_with fail
          refine HC.out.mono ?_
          rintro e w3 ⟨rfl, hb3⟩
          have HB3 := hide (below_next HB2.out hb3)
          clear hb3
          go_wp2_with fail
          go_ret
          exact ⟨rfl, HB3.out⟩
end Go.Proofs.Ytalicfpcmcbdbaa
