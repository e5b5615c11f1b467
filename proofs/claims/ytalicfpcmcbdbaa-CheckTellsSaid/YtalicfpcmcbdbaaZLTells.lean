/- The law of CheckTells. -/
import Derived.Test.YtalicfpcmcbdbaaZCkX
import Derived.Test.YtalicfpcmcbdbaaZCpW
import Derived.Test.YtalicfpcmcbdbaaZCkP
import Derived.Test.YtalicfpcmcbdbaaZParts
import Derived.Test.YtalicfpcmcbdbaaZOkD
set_option linter.unusedVariables false
set_option linter.unusedSimpArgs false
set_option linter.unnecessarySimpa false
set_option linter.deprecated false
namespace Go.Proofs.Ytalicfpcmcbdbaa
open Go.RowKit

set_option maxHeartbeats 1600000 in
set_option maxRecDepth 100000 in
theorem lawTells_any (d : Df) (a2 : Option Addr) (c2 : Nat) (a3 : Option Addr) (c3 : Nat) (a4 : Option Addr) (c4 : Nat) (a5 : Option Addr) (c5 : Nat) (a6 : Option Addr) (c6 : Nat) (w : World) (hd : RD d ⟨a2, c2, a3, c3, a4, c4, a5, c5, a6, c6⟩ w) (hfi : ∀ x ∈ d.boxes, FitIs x.items) : Calls Try.prog 3 #[.agg #[.string d.start, .string d.layout, .slice a2 d.prods.length c2, .slice a3 d.chains.length c3, .slice a4 d.follows.length c4, .slice a5 d.rejects.length c5, .slice a6 d.boxes.length c6]] w fun e w' => e = .returned (.bool true) ∧ Below w.heap.size w w' := by
  have HFI := hide hfi
  clear hfi
  have HB0 := hide ((Below.refl w.heap.size w).alloc (Nat.le_refl _) (.cells #[.string d.start, .string d.layout, .slice a2 d.prods.length c2, .slice a3 d.chains.length c3, .slice a4 d.follows.length c4, .slice a5 d.rejects.length c5, .slice a6 d.boxes.length c6] 28))
  have HX0 := hide (Blk.new w #[.string d.start, .string d.layout, .slice a2 d.prods.length c2, .slice a3 d.chains.length c3, .slice a4 d.follows.length c4, .slice a5 d.rejects.length c5, .slice a6 d.boxes.length c6] 28)
  have HD := hide (hd.below HB0.out)
  have hl2 := hd.p.1
  clear hd
  go_enter Try.func3, Try.ntmps3
  go_upto_region 1 with fail
  obtain ⟨kx, hkx⟩ : ∃ kx, w.heap.size = kx := ⟨_, rfl⟩
  obtain ⟨w0, h1⟩ : ∃ w1, w.alloc (.cells #[.string d.start, .string d.layout, .slice a2 d.prods.length c2, .slice a3 d.chains.length c3, .slice a4 d.follows.length c4, .slice a5 d.rejects.length c5, .slice a6 d.boxes.length c6] 28) = w1 := ⟨_, rfl⟩
  rw [h1] at HD HB0 HX0 ⊢
  rw [hkx] at HX0 ⊢
  clear h1 hkx
  have x0 := HX0.out.cell 0
  have x1 := HX0.out.cell 1
  have x2 := HX0.out.cell 2
  have x3 := HX0.out.cell 3
  have x4 := HX0.out.cell 4
  have x5 := HX0.out.cell 5
  have x6 := HX0.out.cell 6
  have xl := HX0.out.lt
  have HHV := hide (heavy_any d a2 c2 a3 c3 a4 c4 a5 c5 a6 c6 w0 HD.out)
  go_wp2_with fail
  refine HHV.out.mono ?_
  rintro e w1 ⟨⟨hv, rfl, hsm⟩, hb1⟩
  have HB1 := hide (below_next HB0.out hb1)
  have HX1 := hide (HX0.out.below hb1)
  have HD1 := hide (HD.out.below hb1)
  clear HX0 HD HHV HB0 hb1 x0 x1 x2 x3 x4 x5 x6 xl
  clear w0
  cases hv with
  | true =>
    have HC := hide (alive_any w1)
    clear hsm
    go_wp2_with fail
    refine HC.out.mono ?_
    rintro e w2 ⟨rfl, hb2⟩
    have HB2 := hide (below_next HB1.out hb2)
    clear hb2
    go_wp2_with fail
    go_ret
    exact ⟨rfl, HB2.out⟩
  | false =>
    have HTOT := hide (hsm rfl)
    have HSM := hide (tot_small HTOT.out)
    have HFIT := hide (tot_fit HTOT.out HFI.out)
    clear hsm HTOT HFI
    have HC3 := hide (Copy_any d a2 c2 a3 c3 a4 c4 a5 c5 a6 c6 w1 HD1.out HFIT.out)
    have x0 := HX1.out.cell 0
    have x1 := HX1.out.cell 1
    have x2 := HX1.out.cell 2
    have x3 := HX1.out.cell 3
    have x4 := HX1.out.cell 4
    have x5 := HX1.out.cell 5
    have x6 := HX1.out.cell 6
    have xl := HX1.out.lt
    go_wp2_with fail
    refine HC3.out.mono ?_
    rintro e w9 ⟨vP, vC, vF, vR, vB, cP, cC, cF, cR, cB, rfl, hcp, hb9⟩
    have HCP9 := hide hcp.out
    have HB9 := hide (below_next HB1.out hb9)
    have HX9 := hide (HX1.out.below hb9)
    have HD9 := hide (HD1.out.below hb9)
    clear hcp hb9 x0 x1 x2 x3 x4 x5 x6 xl HC3
    obtain ⟨a22, c22, a23, c23, a24, c24, a25, c25, a26, c26, rfl, rfl, rfl, rfl, rfl, hrd⟩ := HCP9.out.rd HFIT.out HD9.out.s HD9.out.l
    have HRD9 := hide hrd
    clear hrd HCP9 HX1 HD1 HB1
    go_upto_region 4 with fail
    obtain ⟨kq, hkq⟩ : ∃ kq, w9.heap.size = kq := ⟨_, rfl⟩
    have HB10 := hide (NB.alloc (show Below w9.heap.size w9 w9 from Below.refl _ _) (.cells #[.string d.start, .string d.layout, .slice a22 d.prods.length c22, .slice a23 d.chains.length c23, .slice a24 d.follows.length c24, .slice a25 d.rejects.length c25, .slice a26 d.boxes.length c26] 28))
    have HQ10 := hide (Blk.new w9 #[.string d.start, .string d.layout, .slice a22 d.prods.length c22, .slice a23 d.chains.length c23, .slice a24 d.follows.length c24, .slice a25 d.rejects.length c25, .slice a26 d.boxes.length c26] 28)
    rw [hkq] at HQ10 ⊢
    clear hkq
    generalize w9.alloc (.cells #[.string d.start, .string d.layout, .slice a22 d.prods.length c22, .slice a23 d.chains.length c23, .slice a24 d.follows.length c24, .slice a25 d.rejects.length c25, .slice a26 d.boxes.length c26] 28) = w10 at HB10 HQ10 ⊢
    have HX10 := hide (HX9.out.below HB10.out)
    have HD10 := hide (HD9.out.below HB10.out)
    have HR10 := hide (HRD9.out.below HB10.out)
    have HB := hide (below_next HB9.out HB10.out)
    clear HX9 HD9 HRD9 HB10 HB9
    have HCK := hide (Check_any d a22 c22 a23 c23 a24 c24 a25 c25 a26 c26 w10 HR10.out HSM.out)
    have HRK := hide (fun (W : World) (h : Below w10.heap.size w10 W) => refCheck_any d a2 c2 a3 c3 a4 c4 a5 c5 a6 c6 W (HD10.out.below h) HSM.out)
    obtain ⟨z1, n1, hz1⟩ : ∃ z1 n1, checkL d = (z1, n1) := ⟨_, _, rfl⟩
    rw [hz1] at HCK HRK
    clear hz1
    have n8 : (n1.toList == n1.toList) = true := beq_self_eq_true _
    have n9 : (z1 == z1) = true := beq_self_eq_true z1
    have q0 := HQ10.out.cell 0
    have q1 := HQ10.out.cell 1
    have q2 := HQ10.out.cell 2
    have q3 := HQ10.out.cell 3
    have q4 := HQ10.out.cell 4
    have q5 := HQ10.out.cell 5
    have q6 := HQ10.out.cell 6
    have ql := HQ10.out.lt
    go_wp2_with fail
    refine HCK.out.mono ?_
    rintro e w11 ⟨rfl, hb11⟩
    have HB11 := hide hb11
    clear hb11 q0 q1 q2 q3 q4 q5 q6 ql HCK
    have x0 := (HX10.out.below HB11.out).cell 0
    have x1 := (HX10.out.below HB11.out).cell 1
    have x2 := (HX10.out.below HB11.out).cell 2
    have x3 := (HX10.out.below HB11.out).cell 3
    have x4 := (HX10.out.below HB11.out).cell 4
    have x5 := (HX10.out.below HB11.out).cell 5
    have x6 := (HX10.out.below HB11.out).cell 6
    have xl := (HX10.out.below HB11.out).lt
    have HRK2 := hide (HRK.out w11 HB11.out)
    go_wp2_with fail
    refine HRK2.out.mono ?_
    rintro e w12 ⟨rfl, hb12⟩
    have HB12 := hide (below_next HB11.out hb12)
    have HAL := hide (alive_any w12)
    clear hb12 HRK HRK2 x0 x1 x2 x3 x4 x5 x6 xl HB11
    go_wp2_with fail
    refine HAL.out.mono ?_
    rintro e w13 ⟨rfl, hb13⟩
    have HB13 := hide (below_next HB12.out hb13)
    have HSA := hide (same_any d a22 c22 a23 c23 a24 c24 a25 c25 a26 c26 a2 c2 a3 c3 a4 c4 a5 c5 a6 c6 w13 (HR10.out.below HB13.out) (HD10.out.below HB13.out))
    clear hb13 HAL HB12
    have x0 := (HX10.out.below HB13.out).cell 0
    have x1 := (HX10.out.below HB13.out).cell 1
    have x2 := (HX10.out.below HB13.out).cell 2
    have x3 := (HX10.out.below HB13.out).cell 3
    have x4 := (HX10.out.below HB13.out).cell 4
    have x5 := (HX10.out.below HB13.out).cell 5
    have x6 := (HX10.out.below HB13.out).cell 6
    have xl := (HX10.out.below HB13.out).lt
    have q0 := (HQ10.out.below HB13.out).cell 0
    have q1 := (HQ10.out.below HB13.out).cell 1
    have q2 := (HQ10.out.below HB13.out).cell 2
    have q3 := (HQ10.out.below HB13.out).cell 3
    have q4 := (HQ10.out.below HB13.out).cell 4
    have q5 := (HQ10.out.below HB13.out).cell 5
    have q6 := (HQ10.out.below HB13.out).cell 6
    have ql := (HQ10.out.below HB13.out).lt
    go_wp2_with fail
    refine HSA.out.mono ?_
    rintro e w14 ⟨rfl, hb14⟩
    have HB14 := hide (below_next HB13.out hb14)
    clear hb14
    go_wp2_with fail
    go_ret
    exact ⟨rfl, below_next HB.out HB14.out⟩
end Go.Proofs.Ytalicfpcmcbdbaa
