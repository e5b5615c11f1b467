/- The walk of the reference's Render. -/
import Derived.Test.YtcmhlfnmjpmjhaaRefY
import Derived.BigQuiet
set_option linter.unusedVariables false
set_option linter.unusedSimpArgs false
set_option linter.unnecessarySimpa false
set_option linter.deprecated false
namespace Go.Proofs.Ytcmhlfnmjpmjhaa
open Go.RowKit

/-- A row of bytes read as a string. -/
theorem own_str {w : World} {B : Nat} {a : Option Addr} {n c : Nat} {acc : List UInt8} (h : w.ownsRow B 5 1 (.slice a n c) acc.length (Lib.byteCells acc)) : n = acc.length ∧ (convert 36 9 (.slice a n c)).run Try.prog w = .ok (.string ⟨acc.toArray⟩) w := by
  obtain ⟨a', cap, e, hc⟩ := own_shape h
  injection e with e1 e2 e3
  subst e1 e2 e3
  refine ⟨rfl, ?_⟩
  by_cases h0 : acc = []
  · subst h0
    exact run_convert_bytes_zero w 36 5 Try.underlying36 Try.underlying5 a c 9 Try.underlying9
  · obtain ⟨g, rfl, _, _, hr⟩ := hc (by simpa using h0)
    refine run_convert_bytes_back w 36 9 5 ⟨g, 0, none⟩ c acc Try.underlying36 Try.underlying5 Try.underlying9 fun j hj => ?_
    rw [add_mk, Nat.zero_add]
    refine hr j _ ?_
    unfold Lib.byteCells
    rw [List.getElem?_map, List.getElem?_eq_getElem hj]
    rfl
theorem brok_of {d : Dc} {width : Int} (hr : rtB 200 d = true) : rendM d width = (if (outM d width).long then (emptyB, 2) else (⟨(outM d width).out.toArray⟩, 0)) ∧ brokM d width = (if (outM d width).long then (0, 2) else ((outM d width).brk, 0)) := by
  unfold rendM brokM
  rw [hr]
  exact ⟨rfl, rfl⟩

set_option maxHeartbeats 8000000 in
set_option maxRecDepth 100000 in
theorem RRender_any (d : Dc) (v : Value) (width : Int) (w : World) (hT : RD w d v) (hc : cnt d ≤ 1000) (hv : vol d ≤ 20000) (hw : -9223372036854775808 ≤ width ∧ width ≤ 9223372036854775807) :
    Calls Try.prog 13 #[v, .int .i64 width] w fun e w' => e = .returned (.tuple #[.string (rendM d width).1, .int .i64 ((brokM d width).1 : Int), .int .i64 (rendM d width).2]) ∧ Below w.heap.size w w' := by
  obtain ⟨a2, c2, rfl, hkd, htx, hnn, hks⟩ := hT.open
  have hb0 := (Below.refl w.heap.size w).alloc (Nat.le_refl _) (.cells #[.int .i64 d.kind, .string d.text, .int .i64 d.num, .slice a2 d.kids.length c2] 24)
  have HB := hide hb0
  have HBX := hide (Blk.new w #[.int .i64 d.kind, .string d.text, .int .i64 d.num, .slice a2 d.kids.length c2] 24)
  have HT := hide (fun W (h : Below w.heap.size w W) => RD.below h hT)
  have HTL := hide (fun W (h : Below w.heap.size w W) => RDo.keep (keep_below h) (RDo.low hT))
  have HR := hide (RRight_any d _ _ (RD.below hb0 hT) (by omega))
  have HC := hide hc
  have HV := hide hv
  clear hT hks hb0 hc hv
  cases hr : rtB 200 d with
  | false =>
    have hq : rendM d width = (emptyB, 140) := by unfold rendM; rw [hr]; rfl
    have hq2 : brokM d width = (0, 140) := by unfold brokM; rw [hr]; rfl
    rw [hr] at HR
    rw [hq, hq2]
    clear hq hq2
    go_enter Try.func13, Try.ntmps13
    go_wp2_with fail
    refine HR.out.mono ?_
    rintro e w1 ⟨rfl, h1⟩
    replace HB := hide (below_next HB.out h1)
    clear h1
    go_wp2_with fail
    go_ret3
    exact ⟨rfl, HB.out⟩
  | true =>
    obtain ⟨hq1, hq2⟩ := brok_of (width := width) hr
    have HQ1 := hide hq1
    have HQ2 := hide hq2
    have HRT := hide hr
    rw [hr] at HR
    obtain ⟨l, hl⟩ : ∃ l, leafs d = l := ⟨_, rfl⟩
    have HL := hide hl
    have HLN := hide (show l.length ≤ 1000 by rw [← hl]; have := leafs_len d; have := HC.out; omega)
    have HLV := hide (show szL l ≤ 20000 by rw [szL_flat, ← hl]; have := leafs_vol d; have := HV.out; omega)
    have HLV2 := hide (fun W v h => RLeaves_any d (by have := HC.out; omega) v W h)
    rw [hl] at HLV2
    have HLY := hide (Lay_any d 200 hr (by have := HC.out; omega))
    rw [hl] at HLY
    have HO := hide (outM_lay d width)
    clear hq1 hq2 hr hl
    go_enter Try.func13, Try.ntmps13
    by_cases hneg : width < 0
    · go_upto_region 3 with fail
      refine HR.out.mono ?_
      rintro e w1 ⟨rfl, h1⟩
      replace HB := hide (below_next HB.out h1)
      replace HBX := hide (HBX.out.below h1)
      clear h1 HR
      obtain ⟨wd, hwd⟩ : ∃ x, max width 0 = x := ⟨_, rfl⟩
      have hwd0 : wd = 0 := by omega
      have HWD := hide hwd
      subst hwd0
      clear hwd
      have b0 := HBX.out.cell 0
      have b1 := HBX.out.cell 1
      have b2 := HBX.out.cell 2
      have b3 := HBX.out.cell 3
      have bl := HBX.out.lt
      go_wp2_with fail
      refine (HLV2.out _ _ (HT.out _ HB.out)).mono ?_
      rintro e w2 ⟨vL, rfl, hp⟩
      obtain ⟨aL, cL, rfl, _⟩ := own_shape hp.out.1
      replace HB := hide (below_next HB.out hp.out.2)
      replace HBX := hide (HBX.out.below hp.out.2)
      have hba := (Below.refl w2.heap.size w2).alloc (Nat.le_refl _) (.cells (wrC (.slice aL l.length cL) 0 (.slice none 0 0) { out := [], col := 0, wid := 0, brk := 0, long := false }) 55)
      have HWR := hide (show WR w.heap.size w2.heap.size (.slice aL l.length cL) 0 { out := [], col := 0, wid := 0, brk := 0, long := false } (w2.alloc (.cells (wrC (.slice aL l.length cL) 0 (.slice none 0 0) { out := [], col := 0, wid := 0, brk := 0, long := false }) 55)) from ⟨HB.out.size, _, Blk.new _ _ _, World.ownsRow_nil _ _ _ _⟩)
      have HRW := hide (own_below hp.out.1 hba)
      replace HB := hide (below_next HB.out hba)
      have HST := hide (show st0 width = { out := [], col := 0, wid := 0, brk := 0, long := false } by unfold st0; rw [HWD.out])
      have HX := hide (HLY.out w.heap.size w2.heap.size _ 0 l aL cL [] { out := [], col := 0, wid := 0, brk := 0, long := false } 0 false _ _ (HTL.out _ HB.out) HWR.out HRW.out (Nat.zero_le _) (by rw [List.drop_zero, List.append_nil]) (by have := HLN.out; omega) (by have := HLV.out; omega) rfl (Nat.le_refl _) (by show 0 ≤ 65536; omega) (by show 0 + _ ≤ _; have := HC.out; omega) (by omega) (by omega) HB.out.size)
      have c0 := (HBX.out.below hba).cell 0
      have c1 := (HBX.out.below hba).cell 1
      have c2' := (HBX.out.below hba).cell 2
      have c3 := (HBX.out.below hba).cell 3
      have cl := (HBX.out.below hba).lt
      clear hp hba b0 b1 b2 b3 bl HBX
      go_upto_region 6 with fail
      generalize hWW : w2.alloc (.cells (wrC (.slice aL l.length cL) 0 (.slice none 0 0) { out := [], col := 0, wid := 0, brk := 0, long := false }) 55) = w3 at HX HB c0 c1 c2' c3 cl
      clear hWW
      rw [show tlL [] = 0 from rfl, ← HST.out, ← HO.out] at HX
      go_wp2_with fail
      refine HX.out.mono ?_
      rintro e w4 ⟨rfl, hp⟩
      obtain ⟨st', n', hwr, hst, hbl, _⟩ := hp.out
      have HB4 := hide (HB.out.trans hbl)
      have c6 := hwr.cells.2.2.2.2.2.1
      have c5 := hwr.cells.2.2.2.2.1
      have l6 := hwr.cells.2.2.2.2.2.2.1
      clear hp hbl c0 c1 c2' c3 cl HX HWR HRW
      rcases hst with ⟨hlg, hlg2⟩ | ⟨rfl, hlg, _⟩
      · rw [hlg] at c6
        have hq1 := HQ1.out
        have hq2 := HQ2.out
        rw [hlg2, if_pos rfl] at hq1 hq2
        have HA1 := hide hq1
        have HA2 := hide hq2
        clear hq1 hq2 hwr
        go_wp2_with fail
        go_ret3
        exact ⟨by rw [HA1.out, HA2.out]; rfl, HB4.out⟩
      · rw [hlg] at c6
        have hq1 := HQ1.out
        have hq2 := HQ2.out
        rw [hlg, if_neg (by simp)] at hq1 hq2
        have HA1 := hide hq1
        have HA2 := hide hq2
        obtain ⟨_, vo, hbk, hown⟩ := hwr
        obtain ⟨ao, co, rfl, _⟩ := own_shape hown
        have c2q : w4.cell? ⟨w2.heap.size, 2, none⟩ = some (.slice ao (outM d width).out.length co) := hbk.cell 2
        obtain ⟨on, hon⟩ : ∃ x, (outM d width).out.length = x := ⟨_, rfl⟩
        have hcv := fun W (h : Below w4.heap.size w4 W) => (own_str (own_below hown h)).2
        rw [hon] at hcv c2q
        have hcv1 := hcv w4 (Below.refl _ _)
        have hcv2 := hcv w4.drew (Below.drew (Below.refl _ _))
        clear hq1 hq2 hbk hown hon hcv
        go_upto_region 9 with fail
        go_region
        go_wp2_with fail
        go_ret3
        exact ⟨by rw [HA1.out, HA2.out]; rfl, Below.drew HB4.out⟩
    · go_upto_region 3 with fail
      refine HR.out.mono ?_
      rintro e w1 ⟨rfl, h1⟩
      replace HB := hide (below_next HB.out h1)
      replace HBX := hide (HBX.out.below h1)
      clear h1 HR
      have HWD := hide (show max width 0 = width by omega)
      have b0 := HBX.out.cell 0
      have b1 := HBX.out.cell 1
      have b2 := HBX.out.cell 2
      have b3 := HBX.out.cell 3
      have bl := HBX.out.lt
      go_wp2_with fail
      refine (HLV2.out _ _ (HT.out _ HB.out)).mono ?_
      rintro e w2 ⟨vL, rfl, hp⟩
      obtain ⟨aL, cL, rfl, _⟩ := own_shape hp.out.1
      replace HB := hide (below_next HB.out hp.out.2)
      replace HBX := hide (HBX.out.below hp.out.2)
      have hba := (Below.refl w2.heap.size w2).alloc (Nat.le_refl _) (.cells (wrC (.slice aL l.length cL) 0 (.slice none 0 0) { out := [], col := 0, wid := width, brk := 0, long := false }) 55)
      have HWR := hide (show WR w.heap.size w2.heap.size (.slice aL l.length cL) 0 { out := [], col := 0, wid := width, brk := 0, long := false } (w2.alloc (.cells (wrC (.slice aL l.length cL) 0 (.slice none 0 0) { out := [], col := 0, wid := width, brk := 0, long := false }) 55)) from ⟨HB.out.size, _, Blk.new _ _ _, World.ownsRow_nil _ _ _ _⟩)
      have HRW := hide (own_below hp.out.1 hba)
      replace HB := hide (below_next HB.out hba)
      have HST := hide (show st0 width = { out := [], col := 0, wid := width, brk := 0, long := false } by unfold st0; rw [HWD.out])
      have HX := hide (HLY.out w.heap.size w2.heap.size _ 0 l aL cL [] { out := [], col := 0, wid := width, brk := 0, long := false } 0 false _ _ (HTL.out _ HB.out) HWR.out HRW.out (Nat.zero_le _) (by rw [List.drop_zero, List.append_nil]) (by have := HLN.out; omega) (by have := HLV.out; omega) rfl (Nat.le_refl _) (by show 0 ≤ 65536; omega) (by show 0 + _ ≤ _; have := HC.out; omega) (by omega) (by omega) HB.out.size)
      have c0 := (HBX.out.below hba).cell 0
      have c1 := (HBX.out.below hba).cell 1
      have c2' := (HBX.out.below hba).cell 2
      have c3 := (HBX.out.below hba).cell 3
      have cl := (HBX.out.below hba).lt
      clear hp hba b0 b1 b2 b3 bl HBX
      go_upto_region 6 with fail
      generalize hWW : w2.alloc (.cells (wrC (.slice aL l.length cL) 0 (.slice none 0 0) { out := [], col := 0, wid := width, brk := 0, long := false }) 55) = w3 at HX HB c0 c1 c2' c3 cl
      clear hWW
      rw [show tlL [] = 0 from rfl, ← HST.out, ← HO.out] at HX
      go_wp2_with fail
      refine HX.out.mono ?_
      rintro e w4 ⟨rfl, hp⟩
      obtain ⟨st', n', hwr, hst, hbl, _⟩ := hp.out
      have HB4 := hide (HB.out.trans hbl)
      have c6 := hwr.cells.2.2.2.2.2.1
      have c5 := hwr.cells.2.2.2.2.1
      have l6 := hwr.cells.2.2.2.2.2.2.1
      clear hp hbl c0 c1 c2' c3 cl HX HWR HRW
      rcases hst with ⟨hlg, hlg2⟩ | ⟨rfl, hlg, _⟩
      · rw [hlg] at c6
        have hq1 := HQ1.out
        have hq2 := HQ2.out
        rw [hlg2, if_pos rfl] at hq1 hq2
        have HA1 := hide hq1
        have HA2 := hide hq2
        clear hq1 hq2 hwr
        go_wp2_with fail
        go_ret3
        exact ⟨by rw [HA1.out, HA2.out]; rfl, HB4.out⟩
      · rw [hlg] at c6
        have hq1 := HQ1.out
        have hq2 := HQ2.out
        rw [hlg, if_neg (by simp)] at hq1 hq2
        have HA1 := hide hq1
        have HA2 := hide hq2
        obtain ⟨_, vo, hbk, hown⟩ := hwr
        obtain ⟨ao, co, rfl, _⟩ := own_shape hown
        have c2q : w4.cell? ⟨w2.heap.size, 2, none⟩ = some (.slice ao (outM d width).out.length co) := hbk.cell 2
        obtain ⟨on, hon⟩ : ∃ x, (outM d width).out.length = x := ⟨_, rfl⟩
        have hcv := fun W (h : Below w4.heap.size w4 W) => (own_str (own_below hown h)).2
        rw [hon] at hcv c2q
        have hcv1 := hcv w4 (Below.refl _ _)
        have hcv2 := hcv w4.drew (Below.drew (Below.refl _ _))
        clear hq1 hq2 hbk hown hon hcv
        go_upto_region 9 with fail
        go_region
        go_wp2_with fail
        go_ret3
        exact ⟨by rw [HA1.out, HA2.out]; rfl, Below.drew HB4.out⟩
end Go.Proofs.Ytcmhlfnmjpmjhaa
