/- The walk of CheckLess. -/
import Derived.Test.YtalicfpcmcbdbaaOkD
import Derived.Test.YtalicfpcmcbdbaaAlive
import Derived.Test.YtalicfpcmcbdbaaParts
import Derived.Deep.RegionHeld3
import Derived.StillTailTactics
set_option linter.unusedVariables false
set_option linter.unusedSimpArgs false
set_option linter.unnecessarySimpa false
set_option linter.deprecated false
namespace Go.Proofs.Ytalicfpcmcbdbaa
open Go.RowKit

/-- A definition without its templates, its chains, its rejects. -/
def Df.less (d : Df) (b c r : Bool) : Df := ⟨d.start, d.layout, d.prods, bif c then [] else d.chains, d.follows, bif r then [] else d.rejects, bif b then [] else d.boxes⟩
theorem OkD.less {d : Df} (b c r : Bool) (h : OkD d) : OkD (d.less b c r) := by
  refine ⟨?_, h.mixed, h.start, h.layout, ?_, h.kind, h.cons, h.brack, h.long, h.null, h.cycle, ?_, ?_, h.follow, ?_⟩
  · have hf := h.form
    unfold rightDfB at hf ⊢
    simp only [Bool.and_eq_true] at hf ⊢
    refine ⟨hf.1, hf.2.1, hf.2.2.1, hf.2.2.2.1, ?_, hf.2.2.2.2.2.1, ?_, ?_⟩
    · cases c
      · exact hf.2.2.2.2.1
      · rfl
    · cases r
      · exact hf.2.2.2.2.2.2.1
      · rfl
    · cases b
      · exact hf.2.2.2.2.2.2.2
      · rfl
  · intro s hs
    refine h.undef s ?_
    unfold usedL at hs ⊢
    cases r
    · exact hs
    · rw [List.mem_append] at hs ⊢
      exact hs.elim Or.inl (fun h => by simp [Df.less] at h)
  · cases r
    · exact h.rej
    · exact fun k hk => absurd hk (by simp [Df.less])
  · cases c
    · exact h.prio
    · exact fun ch hc => by simp [Df.less] at hc
  · cases b
    · exact h.box
    · exact fun k hk => absurd hk (by simp [Df.less])
theorem Small.less {d : Df} (h : Small d) (b c r : Bool) : Small (d.less b c r) := by
  refine ⟨h.pl, h.sl, ?_, ?_, ?_⟩
  · have := h.ul
    unfold usedL at this ⊢
    cases r
    · exact this
    · simp only [List.length_append] at this ⊢
      simp only [Df.less, cond_true, List.flatMap_nil, List.length_nil]
      omega
  · cases c
    · exact h.ct
    · exact fun ch hc => by simp [Df.less] at hc
  · cases b
    · exact h.bl
    · simp [Df.less]
set_option maxHeartbeats 800000 in
set_option maxRecDepth 100000 in
theorem lawLess_any (d : Df) (a2 : Option Addr) (c2 : Nat) (a3 : Option Addr) (c3 : Nat) (a4 : Option Addr) (c4 : Nat) (a5 : Option Addr) (c5 : Nat) (a6 : Option Addr) (c6 : Nat) (n : Int) (w : World) (hd : RD d ⟨a2, c2, a3, c3, a4, c4, a5, c5, a6, c6⟩ w) (hn : -9223372036854775808 ≤ n ∧ n ≤ 9223372036854775807) : Calls Try.prog 6 #[.agg #[.string d.start, .string d.layout, .slice a2 d.prods.length c2, .slice a3 d.chains.length c3, .slice a4 d.follows.length c4, .slice a5 d.rejects.length c5, .slice a6 d.boxes.length c6], .int .i64 n] w fun e w' => e = .returned (.bool true) ∧ Below w.heap.size w w' := by
  have HB0 := hide ((Below.refl w.heap.size w).alloc (Nat.le_refl _) (.cells #[.string d.start, .string d.layout, .slice a2 d.prods.length c2, .slice a3 d.chains.length c3, .slice a4 d.follows.length c4, .slice a5 d.rejects.length c5, .slice a6 d.boxes.length c6] 28))
  have HX0 := hide (Blk.new w #[.string d.start, .string d.layout, .slice a2 d.prods.length c2, .slice a3 d.chains.length c3, .slice a4 d.follows.length c4, .slice a5 d.rejects.length c5, .slice a6 d.boxes.length c6] 28)
  have HD := hide (hd.below HB0.out)
  have hl2 := hd.p.1
  clear hd
  go_enter Try.func6, Try.ntmps6
  go_upto_region 1 with fail
  obtain ⟨kx, hkx⟩ : ∃ kx, w.heap.size = kx := ⟨_, rfl⟩
  obtain ⟨w0, h1⟩ : ∃ w1, w.alloc (.cells #[.string d.start, .string d.layout, .slice a2 d.prods.length c2, .slice a3 d.chains.length c3, .slice a4 d.follows.length c4, .slice a5 d.rejects.length c5, .slice a6 d.boxes.length c6] 28) = w1 := ⟨_, rfl⟩
  rw [h1] at HD HB0 HX0 ⊢
  rw [hkx] at HX0 ⊢
  clear h1 hkx
  have x0 := HX0.out.cell 0
  have x1 := HX0.out.cell 1
  have x2 := HX0.out.cell 2
  have x3 := HX0.out.cell 3
  have x4 := HX0.out.cell 4
  have x5 := HX0.out.cell 5
  have x6 := HX0.out.cell 6
  have xl := HX0.out.lt
  have HHV := hide (heavy_any d a2 c2 a3 c3 a4 c4 a5 c5 a6 c6 w0 HD.out)
  go_wp2_with fail
  refine HHV.out.mono ?_
  rintro e w1 ⟨⟨hv, rfl, hsm⟩, hb1⟩
  have HB1 := hide (below_next HB0.out hb1)
  have HX1 := hide (HX0.out.below hb1)
  have HD1 := hide (HD.out.below hb1)
  clear HX0 HD HHV HB0 hb1 x0 x1 x2 x3 x4 x5 x6 xl
  clear w0
  cases hv with
  | true =>
    have HC := hide (alive_any w1)
    clear hsm
    go_wp2_with fail
    refine HC.out.mono ?_
    rintro e w2 ⟨rfl, hb2⟩
    have HB2 := hide (below_next HB1.out hb2)
    clear hb2
    go_wp2_with fail
    go_ret
    exact ⟨rfl, HB2.out⟩
  | false =>
    have HSM := hide (tot_small (hsm rfl))
    clear hsm
    have HCK1 := hide (Check_any d a2 c2 a3 c3 a4 c4 a5 c5 a6 c6 w1 HD1.out HSM.out)
    obtain ⟨z1, n1, hz1⟩ : ∃ z1 n1, checkL d = (z1, n1) := ⟨_, _, rfl⟩
    have HZ1 := hide (show z1 = 0 ↔ OkD d by rw [← check_ok, hz1])
    rw [hz1] at HCK1
    clear hz1
    have x0 := HX1.out.cell 0
    have x1 := HX1.out.cell 1
    have x2 := HX1.out.cell 2
    have x3 := HX1.out.cell 3
    have x4 := HX1.out.cell 4
    have x5 := HX1.out.cell 5
    have x6 := HX1.out.cell 6
    have xl := HX1.out.lt
    go_wp2_with fail
    refine HCK1.out.mono ?_
    rintro e w2 ⟨rfl, hb2⟩
    have HB12 := hide hb2
    have HX2 := hide (HX1.out.below hb2)
    clear hb2 x0 x1 x2 x3 x4 x5 x6 xl
    have x0 := HX2.out.cell 0
    have x1 := HX2.out.cell 1
    have x2 := HX2.out.cell 2
    have x3 := HX2.out.cell 3
    have x4 := HX2.out.cell 4
    have x5 := HX2.out.cell 5
    have x6 := HX2.out.cell 6
    have xl := HX2.out.lt
    go_upto_region 5 with fail
    clear x0 x1 x2 x3 x4 x5 x6 xl
    obtain ⟨ky, hky⟩ : ∃ ky, w2.heap.size = ky := ⟨_, rfl⟩
    have HKY1 := hide (show w1.heap.size ≤ ky by rw [← hky]; exact HB12.out.size)
    have HKY := hide (show w.heap.size ≤ ky from Nat.le_trans HB1.out.size HKY1.out)
    have HB14 := hide (HB12.out.alloc HB12.out.size (.cells #[.string d.start, .string d.layout, .slice a2 d.prods.length c2, .slice a3 d.chains.length c3, .slice a4 d.follows.length c4, .slice a5 d.rejects.length c5, .slice a6 d.boxes.length c6] 28))
    have HY4 := hide (Blk.new w2 #[.string d.start, .string d.layout, .slice a2 d.prods.length c2, .slice a3 d.chains.length c3, .slice a4 d.follows.length c4, .slice a5 d.rejects.length c5, .slice a6 d.boxes.length c6] 28)
    have HB4 := hide (below_next HB1.out HB14.out)
    rw [hky] at HY4 ⊢
    generalize w2.alloc (.cells #[.string d.start, .string d.layout, .slice a2 d.prods.length c2, .slice a3 d.chains.length c3, .slice a4 d.follows.length c4, .slice a5 d.rejects.length c5, .slice a6 d.boxes.length c6] 28) = w4 at HB14 HY4 HB4 ⊢
    clear hky
    have y0 := HY4.out.cell 0
    have y1 := HY4.out.cell 1
    have y2 := HY4.out.cell 2
    have y3 := HY4.out.cell 3
    have y4 := HY4.out.cell 4
    have y5 := HY4.out.cell 5
    have y6 := HY4.out.cell 6
    have yl := HY4.out.lt
    have f3 := HY4.out.free 3
    have f5 := HY4.out.free 5
    have f6 := HY4.out.free 6
    go_upto_region 7 with fail
    obtain ⟨q, hq⟩ : ∃ q, bits BinOp.and IntKind.i64 n 3 = q := ⟨_, rfl⟩
    rw [hq]
    clear hq
    by_cases hq0 : q = 0
    · have g0 : (q == 0) = true := by simpa using hq0
      go_upto_region 13 with fail
      have HY5 := hide (show Blk (w4.setCell ⟨ky, 6, none⟩ (.slice none 0 0)) ky #[.string d.start, .string d.layout, .slice a2 d.prods.length c2, .slice a3 d.chains.length c3, .slice a4 d.follows.length c4, .slice a5 d.rejects.length c5, .slice none 0 0] 28 from (HY4.out.set 6 (.slice none 0 0)))
      have HB5 := hide (show Below w.heap.size w (w4.setCell ⟨ky, 6, none⟩ (.slice none 0 0)) from (HB4.out.setCell (by have := HKY.out; simp only; omega) (.slice none 0 0)))
      have HB45 := hide (show Below w1.heap.size w1 (w4.setCell ⟨ky, 6, none⟩ (.slice none 0 0)) from (HB14.out.setCell (by have := HKY1.out; simp only; omega) (.slice none 0 0)))
      generalize (w4.setCell ⟨ky, 6, none⟩ (.slice none 0 0)) = w5 at HY5 HB5 HB45 ⊢
      have HD4 := hide (HD1.out.below HB45.out)
      have HD5 := hide (show RD (d.less true false false) ⟨a2, c2, a3, c3, a4, c4, a5, c5, none, 0⟩ w5 from ⟨HD4.out.s, HD4.out.l, HD4.out.p, HD4.out.c, HD4.out.f, HD4.out.j, Row.nil, HD4.out.q⟩)
      have HCK := hide (Check_any (d.less true false false) a2 c2 a3 c3 a4 c4 a5 c5 none 0 w5 HD5.out (HSM.out.less true false false))
      clear y0 y1 y2 y3 y4 y5 y6 yl f3 f5 f6
      obtain ⟨z2, n2, hz2⟩ : ∃ z2 n2, checkL (d.less true false false) = (z2, n2) := ⟨_, _, rfl⟩
      have HZ2 := hide (fun h => by have := (check_ok (d.less true false false)).2 (OkD.less true false false (HZ1.out.1 h)); rw [hz2] at this; exact this : z1 = 0 → z2 = 0)
      rw [hz2] at HCK
      clear hz2
      have y0 := HY5.out.cell 0
      have y1 := HY5.out.cell 1
      have y2 := HY5.out.cell 2
      have y3 := HY5.out.cell 3
      have y4 := HY5.out.cell 4
      have y5 := HY5.out.cell 5
      have y6 := HY5.out.cell 6
      have yl := HY5.out.lt
      go_wp2_with fail
      refine HCK.out.mono ?_
      rintro e w6 ⟨rfl, hb6⟩
      have HB6 := hide (below_next HB5.out hb6)
      have HAL := hide (alive_any w6)
      clear hb6 y0 y1 y2 y3 y4 y5 y6 yl
      by_cases hz : z1 = 0
      · have hz1 : (z1 == 0) = true := by simpa using hz
        have hz1n : (!z1 == 0) = false := by rw [hz1]; rfl
        have hzz := HZ2.out hz
        have hz2 : (z2 == 0) = true := by simpa using hzz
        clear hzz
        go_wp2_with fail
        refine HAL.out.mono ?_
        rintro e w7 ⟨rfl, hb7⟩
        go_wp2_with fail
        go_ret
        exact ⟨rfl, below_next HB6.out hb7⟩
      · have hz1 : (z1 == 0) = false := by simpa using hz
        have hz1n : (!z1 == 0) = true := by rw [hz1]; rfl
        go_wp2_with fail
        refine HAL.out.mono ?_
        rintro e w7 ⟨rfl, hb7⟩
        go_wp2_with fail
        go_ret
        exact ⟨rfl, below_next HB6.out hb7⟩
    have g0 : (q == 0) = false := by simpa using hq0
    by_cases hq1 : q = 1
    · have g1 : (q == 1) = true := by simpa using hq1
      go_upto_region 13 with fail
      have HY5 := hide (show Blk (w4.setCell ⟨ky, 3, none⟩ (.slice none 0 0)) ky #[.string d.start, .string d.layout, .slice a2 d.prods.length c2, .slice none 0 0, .slice a4 d.follows.length c4, .slice a5 d.rejects.length c5, .slice a6 d.boxes.length c6] 28 from (HY4.out.set 3 (.slice none 0 0)))
      have HB5 := hide (show Below w.heap.size w (w4.setCell ⟨ky, 3, none⟩ (.slice none 0 0)) from (HB4.out.setCell (by have := HKY.out; simp only; omega) (.slice none 0 0)))
      have HB45 := hide (show Below w1.heap.size w1 (w4.setCell ⟨ky, 3, none⟩ (.slice none 0 0)) from (HB14.out.setCell (by have := HKY1.out; simp only; omega) (.slice none 0 0)))
      generalize (w4.setCell ⟨ky, 3, none⟩ (.slice none 0 0)) = w5 at HY5 HB5 HB45 ⊢
      have HD4 := hide (HD1.out.below HB45.out)
      have HD5 := hide (show RD (d.less false true false) ⟨a2, c2, none, 0, a4, c4, a5, c5, a6, c6⟩ w5 from ⟨HD4.out.s, HD4.out.l, HD4.out.p, Row.nil, HD4.out.f, HD4.out.j, HD4.out.x, HD4.out.q⟩)
      have HCK := hide (Check_any (d.less false true false) a2 c2 none 0 a4 c4 a5 c5 a6 c6 w5 HD5.out (HSM.out.less false true false))
      clear y0 y1 y2 y3 y4 y5 y6 yl f3 f5 f6
      obtain ⟨z2, n2, hz2⟩ : ∃ z2 n2, checkL (d.less false true false) = (z2, n2) := ⟨_, _, rfl⟩
      have HZ2 := hide (fun h => by have := (check_ok (d.less false true false)).2 (OkD.less false true false (HZ1.out.1 h)); rw [hz2] at this; exact this : z1 = 0 → z2 = 0)
      rw [hz2] at HCK
      clear hz2
      have y0 := HY5.out.cell 0
      have y1 := HY5.out.cell 1
      have y2 := HY5.out.cell 2
      have y3 := HY5.out.cell 3
      have y4 := HY5.out.cell 4
      have y5 := HY5.out.cell 5
      have y6 := HY5.out.cell 6
      have yl := HY5.out.lt
      go_wp2_with fail
      refine HCK.out.mono ?_
      rintro e w6 ⟨rfl, hb6⟩
      have HB6 := hide (below_next HB5.out hb6)
      have HAL := hide (alive_any w6)
      clear hb6 y0 y1 y2 y3 y4 y5 y6 yl
      by_cases hz : z1 = 0
      · have hz1 : (z1 == 0) = true := by simpa using hz
        have hz1n : (!z1 == 0) = false := by rw [hz1]; rfl
        have hzz := HZ2.out hz
        have hz2 : (z2 == 0) = true := by simpa using hzz
        clear hzz
        go_wp2_with fail
        refine HAL.out.mono ?_
        rintro e w7 ⟨rfl, hb7⟩
        go_wp2_with fail
        go_ret
        exact ⟨rfl, below_next HB6.out hb7⟩
      · have hz1 : (z1 == 0) = false := by simpa using hz
        have hz1n : (!z1 == 0) = true := by rw [hz1]; rfl
        go_wp2_with fail
        refine HAL.out.mono ?_
        rintro e w7 ⟨rfl, hb7⟩
        go_wp2_with fail
        go_ret
        exact ⟨rfl, below_next HB6.out hb7⟩
    have g1 : (q == 1) = false := by simpa using hq1
    by_cases hq2 : q = 2
    · have g2 : (q == 2) = true := by simpa using hq2
      go_upto_region 13 with fail
      have HY5 := hide (show Blk (w4.setCell ⟨ky, 5, none⟩ (.slice none 0 0)) ky #[.string d.start, .string d.layout, .slice a2 d.prods.length c2, .slice a3 d.chains.length c3, .slice a4 d.follows.length c4, .slice none 0 0, .slice a6 d.boxes.length c6] 28 from (HY4.out.set 5 (.slice none 0 0)))
      have HB5 := hide (show Below w.heap.size w (w4.setCell ⟨ky, 5, none⟩ (.slice none 0 0)) from (HB4.out.setCell (by have := HKY.out; simp only; omega) (.slice none 0 0)))
      have HB45 := hide (show Below w1.heap.size w1 (w4.setCell ⟨ky, 5, none⟩ (.slice none 0 0)) from (HB14.out.setCell (by have := HKY1.out; simp only; omega) (.slice none 0 0)))
      generalize (w4.setCell ⟨ky, 5, none⟩ (.slice none 0 0)) = w5 at HY5 HB5 HB45 ⊢
      have HD4 := hide (HD1.out.below HB45.out)
      have HD5 := hide (show RD (d.less false false true) ⟨a2, c2, a3, c3, a4, c4, none, 0, a6, c6⟩ w5 from ⟨HD4.out.s, HD4.out.l, HD4.out.p, HD4.out.c, HD4.out.f, Row.nil, HD4.out.x, Nat.le_refl _⟩)
      have HCK := hide (Check_any (d.less false false true) a2 c2 a3 c3 a4 c4 none 0 a6 c6 w5 HD5.out (HSM.out.less false false true))
      clear y0 y1 y2 y3 y4 y5 y6 yl f3 f5 f6
      obtain ⟨z2, n2, hz2⟩ : ∃ z2 n2, checkL (d.less false false true) = (z2, n2) := ⟨_, _, rfl⟩
      have HZ2 := hide (fun h => by have := (check_ok (d.less false false true)).2 (OkD.less false false true (HZ1.out.1 h)); rw [hz2] at this; exact this : z1 = 0 → z2 = 0)
      rw [hz2] at HCK
      clear hz2
      have y0 := HY5.out.cell 0
      have y1 := HY5.out.cell 1
      have y2 := HY5.out.cell 2
      have y3 := HY5.out.cell 3
      have y4 := HY5.out.cell 4
      have y5 := HY5.out.cell 5
      have y6 := HY5.out.cell 6
      have yl := HY5.out.lt
      go_wp2_with fail
      refine HCK.out.mono ?_
      rintro e w6 ⟨rfl, hb6⟩
      have HB6 := hide (below_next HB5.out hb6)
      have HAL := hide (alive_any w6)
      clear hb6 y0 y1 y2 y3 y4 y5 y6 yl
      by_cases hz : z1 = 0
      · have hz1 : (z1 == 0) = true := by simpa using hz
        have hz1n : (!z1 == 0) = false := by rw [hz1]; rfl
        have hzz := HZ2.out hz
        have hz2 : (z2 == 0) = true := by simpa using hzz
        clear hzz
        go_wp2_with fail
        refine HAL.out.mono ?_
        rintro e w7 ⟨rfl, hb7⟩
        go_wp2_with fail
        go_ret
        exact ⟨rfl, below_next HB6.out hb7⟩
      · have hz1 : (z1 == 0) = false := by simpa using hz
        have hz1n : (!z1 == 0) = true := by rw [hz1]; rfl
        go_wp2_with fail
        refine HAL.out.mono ?_
        rintro e w7 ⟨rfl, hb7⟩
        go_wp2_with fail
        go_ret
        exact ⟨rfl, below_next HB6.out hb7⟩
    have g2 : (q == 2) = false := by simpa using hq2
    go_upto_region 13 with fail
    have HY5 := hide (show Blk (((w4.setCell ⟨ky, 6, none⟩ (.slice none 0 0)).setCell ⟨ky, 3, none⟩ (.slice none 0 0)).setCell ⟨ky, 5, none⟩ (.slice none 0 0)) ky #[.string d.start, .string d.layout, .slice a2 d.prods.length c2, .slice none 0 0, .slice a4 d.follows.length c4, .slice none 0 0, .slice none 0 0] 28 from (((HY4.out.set 6 (.slice none 0 0)).set 3 (.slice none 0 0)).set 5 (.slice none 0 0)))
    have HB5 := hide (show Below w.heap.size w (((w4.setCell ⟨ky, 6, none⟩ (.slice none 0 0)).setCell ⟨ky, 3, none⟩ (.slice none 0 0)).setCell ⟨ky, 5, none⟩ (.slice none 0 0)) from (((HB4.out.setCell (by have := HKY.out; simp only; omega) (.slice none 0 0)).setCell (by have := HKY.out; simp only; omega) (.slice none 0 0)).setCell (by have := HKY.out; simp only; omega) (.slice none 0 0)))
    have HB45 := hide (show Below w1.heap.size w1 (((w4.setCell ⟨ky, 6, none⟩ (.slice none 0 0)).setCell ⟨ky, 3, none⟩ (.slice none 0 0)).setCell ⟨ky, 5, none⟩ (.slice none 0 0)) from (((HB14.out.setCell (by have := HKY1.out; simp only; omega) (.slice none 0 0)).setCell (by have := HKY1.out; simp only; omega) (.slice none 0 0)).setCell (by have := HKY1.out; simp only; omega) (.slice none 0 0)))
    generalize (((w4.setCell ⟨ky, 6, none⟩ (.slice none 0 0)).setCell ⟨ky, 3, none⟩ (.slice none 0 0)).setCell ⟨ky, 5, none⟩ (.slice none 0 0)) = w5 at HY5 HB5 HB45 ⊢
    have HD4 := hide (HD1.out.below HB45.out)
    have HD5 := hide (show RD (d.less true true true) ⟨a2, c2, none, 0, a4, c4, none, 0, none, 0⟩ w5 from ⟨HD4.out.s, HD4.out.l, HD4.out.p, Row.nil, HD4.out.f, Row.nil, Row.nil, Nat.le_refl _⟩)
    have HCK := hide (Check_any (d.less true true true) a2 c2 none 0 a4 c4 none 0 none 0 w5 HD5.out (HSM.out.less true true true))
    clear y0 y1 y2 y3 y4 y5 y6 yl f3 f5 f6
    obtain ⟨z2, n2, hz2⟩ : ∃ z2 n2, checkL (d.less true true true) = (z2, n2) := ⟨_, _, rfl⟩
    have HZ2 := hide (fun h => by have := (check_ok (d.less true true true)).2 (OkD.less true true true (HZ1.out.1 h)); rw [hz2] at this; exact this : z1 = 0 → z2 = 0)
    rw [hz2] at HCK
    clear hz2
    have y0 := HY5.out.cell 0
    have y1 := HY5.out.cell 1
    have y2 := HY5.out.cell 2
    have y3 := HY5.out.cell 3
    have y4 := HY5.out.cell 4
    have y5 := HY5.out.cell 5
    have y6 := HY5.out.cell 6
    have yl := HY5.out.lt
    go_wp2_with fail
    refine HCK.out.mono ?_
    rintro e w6 ⟨rfl, hb6⟩
    have HB6 := hide (below_next HB5.out hb6)
    have HAL := hide (alive_any w6)
    clear hb6 y0 y1 y2 y3 y4 y5 y6 yl
    by_cases hz : z1 = 0
    · have hz1 : (z1 == 0) = true := by simpa using hz
      have hz1n : (!z1 == 0) = false := by rw [hz1]; rfl
      have hzz := HZ2.out hz
      have hz2 : (z2 == 0) = true := by simpa using hzz
      clear hzz
      go_wp2_with fail
      refine HAL.out.mono ?_
      rintro e w7 ⟨rfl, hb7⟩
      go_wp2_with fail
      go_ret
      exact ⟨rfl, below_next HB6.out hb7⟩
    · have hz1 : (z1 == 0) = false := by simpa using hz
      have hz1n : (!z1 == 0) = true := by rw [hz1]; rfl
      go_wp2_with fail
      refine HAL.out.mono ?_
      rintro e w7 ⟨rfl, hb7⟩
      go_wp2_with fail
      go_ret
      exact ⟨rfl, below_next HB6.out hb7⟩
end Go.Proofs.Ytalicfpcmcbdbaa
