/- The reference: bracket. -/
import Derived.Test.YtalicfpcmcbdbaaZCkF
import Derived.Test.YtalicfpcmcbdbaaZLook7
import Derived.Test.YtalicfpcmcbdbaaZTurn
import Derived.BigQuiet
import Derived.IntWalk
set_option linter.unusedVariables false
set_option linter.unusedSimpArgs false
set_option linter.unnecessarySimpa false
set_option linter.deprecated false
namespace Go.Proofs.Ytalicfpcmcbdbaa
open Go.RowKit

set_option maxHeartbeats 800000 in
set_option maxRecDepth 100000 in
theorem rbracket_any (p : Pd) (ap : Option Addr) (cp : Nat) (w : World) (hr : Row SyAt 8 p.syms ap w) (hpl : p.syms.length ≤ 10000) : Calls Try.prog 94 #[.agg #[.bool p.lex, .string p.sort, .string p.cons, .bool p.bracket, .slice ap p.syms.length cp]] w fun e w' => e = .returned (.bool (bracketB p)) ∧ Below w.heap.size w w' := by
  have HB0 := hide ((Below.refl w.heap.size w).alloc (Nat.le_refl _) (.cells #[.bool p.lex, .string p.sort, .string p.cons, .bool p.bracket, .slice ap p.syms.length cp] 38))
  have HX0 := hide (Blk.new w #[.bool p.lex, .string p.sort, .string p.cons, .bool p.bracket, .slice ap p.syms.length cp] 38)
  have HR := hide (hr.below SyAt.stable HB0.out)
  obtain ⟨res, hres⟩ : ∃ r, bracketB p = r := ⟨_, rfl⟩
  rw [hres]
  have HRES := hide hres
  obtain ⟨lx, so, cn, br, sy⟩ := p
  have hpl : sy.length ≤ 10000 := hpl
  clear hr hres
  go_enter Try.func94, Try.ntmps94
  go_upto_region 1 with fail
  obtain ⟨kx, hkx⟩ : ∃ kx, w.heap.size = kx := ⟨_, rfl⟩
  obtain ⟨w1, h1⟩ : ∃ w1, w.alloc (.cells #[.bool lx, .string so, .string cn, .bool br, .slice ap sy.length cp] 38) = w1 := ⟨_, rfl⟩
  replace HB0 := hide (show Below w.heap.size w w1 by rw [← h1]; exact HB0.out)
  replace HX0 := hide (show Blk w1 kx #[.bool lx, .string so, .string cn, .bool br, .slice ap sy.length cp] 38 by rw [← h1, ← hkx]; exact HX0.out)
  replace HR := hide (show Row SyAt 8 sy ap w1 by rw [← h1]; exact HR.out)
  rw [h1, hkx]
  clear h1 hkx
  have x0 := HX0.out.cell 0
  have x1 := HX0.out.cell 1
  have x2 := HX0.out.cell 2
  have x3 := HX0.out.cell 3
  have x4 := HX0.out.cell 4
  have xl := HX0.out.lt
  obtain ⟨bz, hbz⟩ : ∃ bz, br = bz := ⟨_, rfl⟩
  rw [hbz] at x3
  have HBZ := hide hbz
  clear hbz
  cases bz with
  | false =>
    have HF := hide (show res = false by rw [← HRES.out]; unfold bracketB; rw [show (Pd.mk lx so cn br sy).bracket = false from HBZ.out]; rfl)
    go_wp2_with fail
    go_ret
    exact ⟨by rw [HF.out]; rfl, HB0.out⟩
  | true =>
    have HF := hide (show res = brackOf so sy (holesOf sy 0) by rw [← HRES.out]; unfold bracketB; rw [show (Pd.mk lx so cn br sy).bracket = true from HBZ.out]; rfl)
    have HML := hide (fun h => holesOf_lt sy 0 h)
    have HC := hide (rHoles_at ⟨lx, so, cn, br, sy⟩ ap cp w1 HR.out (by show sy.length ≤ 100000; omega))
    have x3b : w1.cell? ⟨kx, 3, none⟩ = some (.bool br) := HX0.out.cell 3
    go_upto_region 3 with fail
    clear x3
    go_wp2_with fail
    refine HC.out.mono ?_
    rintro e w5 ⟨v5, rfl, ho, hb⟩
    have HB5 := hide (below_next HB0.out hb)
    have HR5 := hide (HR.out.below SyAt.stable hb)
    have HX5 := hide (HX0.out.below hb)
    obtain ⟨a, c, rfl, hc⟩ := own_shape ho
    obtain ⟨hl, hhl⟩ : ∃ hl, holesOf sy 0 = hl := ⟨_, rfl⟩
    rw [hhl] at hc HF
    have hml : ∀ h, h ∈ hl → h < sy.length := fun h hm => by have := HML.out h (by rw [hhl]; exact hm); simpa using this.2
    rw [hhl]
    clear ho hhl hb x0 x1 x2 x3b x4 xl HC HML
    match hl, hc, HF, hml with
    | [], hc, HF, hml =>
      clear hc hml
      go_wp2_with fail
      go_ret
      exact ⟨by rw [HF.out]; rfl, HB5.out⟩
    | x :: y :: r, hc, HF, hml =>
      have hn1 : ((((x :: y :: r).length : Nat) : Int) != 1) = true := by simp only [List.length_cons]; simp only [bne_iff_ne]; omega
      have hn2 : ((((x :: y :: r).length : Nat) : Int) == 1) = false := by simp only [List.length_cons]; rw [beq_eq_false_iff_ne]; omega
      have hn3 : ¬ (((x :: y :: r).length : Nat) : Int) = 1 := by simp only [List.length_cons]; omega
      obtain ⟨q, hq⟩ : ∃ q, (x :: y :: r).length = q := ⟨_, rfl⟩
      have HF2 := hide (show res = true by rw [HF.out]; rfl)
      rw [hq] at hn1 hn2 hn3 ⊢
      clear hc hml hq HF
      go_wp2_with fail
      go_ret
      exact ⟨by rw [HF2.out]; rfl, HB5.out⟩
    | [x], hc, HF, hml =>
      obtain ⟨g, rfl, hgB, hg, hcell⟩ := hc (by simp)
      have c0 := hcell 0 _ rfl
      have hxl := hml x (by simp)
      clear hcell hml hgB
      obtain ⟨bs, os, rfl, hbs, hat⟩ := HR5.out.get hxl
      have hx := hat x hxl
      have hgx : sy[x]? = some sy[x] := List.getElem?_eq_getElem hxl
      have HF2 := hide (show res = (decide (x = 0) || decide (x + 1 = sy.length) || (!decide (sy[x].kind = 3) || !decide (sy[x].name = so))) by rw [HF.out]; simp only [brackOf, hgx])
      generalize sy[x] = s at hx HF2
      obtain ⟨kd, t, st, nm, sp⟩ := s
      obtain ⟨e0, e1, e2, e3, e4, e5, e6, e7⟩ := hx.cells
      clear hgx hat HF hx
      have x1 := HX5.out.cell 1
      have x4 := HX5.out.cell 4
      have xl := HX5.out.lt
      have hxi : (x : Int) < (sy.length : Int) := by omega
      have hsm : IntKind.i64.wrap ((x : Int) + 1) = (x : Int) + 1 := IntWalk.i64_in _ (by omega)
      have hx0 : (0 : Int) ≤ (x : Int) := by omega
      go_upto_region 7 with fail
      by_cases h0 : x = 0
      · have d0 : decide ((x : Int) < 1) = true := decide_eq_true (by omega)
        have HF3 := hide (show res = true by rw [HF2.out, decide_eq_true h0]; rfl)
        clear HF2 h0
        go_quiet (fail)
        go_wp2_with fail
        go_ret
        exact ⟨by rw [HF3.out]; rfl, HB5.out.trans ⟨rfl, rfl, rfl, Nat.le_refl _, fun _ _ => rfl⟩⟩
      · have d0 : decide ((x : Int) < 1) = false := decide_eq_false (by omega)
        by_cases h1 : x + 1 = sy.length
        · have d1 : decide ((x : Int) + 1 ≥ (sy.length : Int)) = true := decide_eq_true (by omega)
          have HF3 := hide (show res = true by rw [HF2.out, decide_eq_true h1]; simp)
          clear HF2 h0 h1
          go_quiet (fail)
          go_wp2_with fail
          go_ret
          exact ⟨by rw [HF3.out]; rfl, HB5.out.trans ⟨rfl, rfl, rfl, Nat.le_refl _, fun _ _ => rfl⟩⟩
        · have d1 : decide ((x : Int) + 1 ≥ (sy.length : Int)) = false := decide_eq_false (by omega)
          have HF3 := hide (show res = (!decide (kd = 3) || !decide (nm = so)) by rw [HF2.out, decide_eq_false h0, decide_eq_false h1]; rfl)
          clear HF2 h0 h1
          by_cases h3 : kd = 3
          · have n2 : (kd != 3) = false := by rw [h3]; rfl
            by_cases h4 : nm = so
            · have HF4 := hide (show res = false by rw [HF3.out, decide_eq_true h3, decide_eq_true h4]; rfl)
              have n3 : (!nm.toList == so.toList) = false := by rw [h4]; simp
              have n4 : (nm.toList == so.toList) = true := by rw [h4]; simp
              clear HF3 h3 h4
              go_quiet (fail)
              go_wp2_with fail
              go_ret
              exact ⟨by rw [HF4.out]; rfl, HB5.out.trans ⟨rfl, rfl, rfl, Nat.le_refl _, fun _ _ => rfl⟩⟩
            · have HF4 := hide (show res = true by rw [HF3.out, decide_eq_false h4]; simp)
              have n4 : (nm.toList == so.toList) = false := beq_eq_false_iff_ne.2 (fun h => h4 ((toList_eq_iff _ _).1 h))
              have n3 : (!nm.toList == so.toList) = true := by rw [n4]; rfl
              clear HF3 h3 h4
              go_quiet (fail)
              go_wp2_with fail
              go_ret
              exact ⟨by rw [HF4.out]; rfl, HB5.out.trans ⟨rfl, rfl, rfl, Nat.le_refl _, fun _ _ => rfl⟩⟩
          · have n2 : (kd != 3) = true := by simpa using h3
            have HF4 := hide (show res = true by rw [HF3.out, decide_eq_false h3]; rfl)
            clear HF3 h3
            go_quiet (fail)
            go_wp2_with fail
            go_ret
            exact ⟨by rw [HF4.out]; rfl, HB5.out.trans ⟨rfl, rfl, rfl, Nat.le_refl _, fun _ _ => rfl⟩⟩
end Go.Proofs.Ytalicfpcmcbdbaa
