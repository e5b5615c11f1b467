/- The walk of bracket. -/
import Derived.Test.YtalicfpcmcbdbaaZLook2
import Derived.Test.YtalicfpcmcbdbaaZCons
import Derived.Test.YtalicfpcmcbdbaaZHoles
set_option linter.unusedVariables false
set_option linter.unusedSimpArgs false
set_option linter.unnecessarySimpa false
set_option linter.deprecated false
namespace Go.Proofs.Ytalicfpcmcbdbaa
open Go.RowKit

theorem holesOf_lt : ∀ (l : List Sy) (k h : Nat), h ∈ holesOf l k → k ≤ h ∧ h < k + l.length
  | [], k, h, hm => by simp [holesOf] at hm
  | x :: l, k, h, hm => by
    have ih := holesOf_lt l (k + 1) h
    rw [holesOf] at hm
    rw [List.length_cons]
    split at hm
    · have := ih hm; omega
    · rcases List.mem_cons.1 hm with rfl | hm
      · omega
      · have := ih hm; omega
/-- Is a bracket's production no bracket: one hole, neither first nor last, of the production's own sort. -/
def brackOf (so : ByteArray) (sy : List Sy) : List Nat → Bool
  | [h] => decide (h = 0) || decide (h + 1 = sy.length) || (match sy[h]? with | some s => !decide (s.kind = 3) || !decide (s.name = so) | none => true)
  | _ => true
def bracketB (p : Pd) : Bool := p.bracket && brackOf p.sort p.syms (holesOf p.syms 0)
set_option maxHeartbeats 4000000 in
set_option maxRecDepth 100000 in
theorem bracket_any (bb : Nat) (p : Pd) (ap : Option Addr) (cp : Nat) (w : World) (hr : Row SyAt 8 p.syms ap w) (hln : p.syms.length ≤ 100000) :
    Calls Try.prog 42 #[.pointer (some ⟨bb, 0, none⟩), .agg #[.bool p.lex, .string p.sort, .string p.cons, .bool p.bracket, .slice ap p.syms.length cp]] w fun e w' => e = .returned (.bool (bracketB p)) ∧ Below w.heap.size w w' := by
  have HB0 := hide ((Below.refl w.heap.size w).alloc (Nat.le_refl _) (.cells #[.bool p.lex, .string p.sort, .string p.cons, .bool p.bracket, .slice ap p.syms.length cp] 38))
  have HBL := hide (Blk.new w #[.bool p.lex, .string p.sort, .string p.cons, .bool p.bracket, .slice ap p.syms.length cp] 38)
  have HR := hide (hr.below SyAt.stable HB0.out)
  have HC := hide (Holes_at p ap cp (w.alloc (.cells #[.bool p.lex, .string p.sort, .string p.cons, .bool p.bracket, .slice ap p.syms.length cp] 38)) HR.out hln)
  obtain ⟨res, hres⟩ : ∃ r, bracketB p = r := ⟨_, rfl⟩
  rw [hres]
  have HRES := hide hres
  have HML := hide (fun h => holesOf_lt p.syms 0 h)
  obtain ⟨lx, so, cn, br, sy⟩ := p
  clear hr hres
  cases br
  · have HF := hide (show res = false by rw [← HRES.out]; rfl)
    go_enter Try.func42, Try.ntmps42
    go_wp2_with fail
    go_ret
    exact ⟨by rw [HF.out]; rfl, HB0.out⟩
  · have HF := hide (show res = brackOf so sy (holesOf sy 0) by rw [← HRES.out]; rfl)
    clear HRES
    go_enter Try.func42, Try.ntmps42
    go_wp2_with fail
    refine HC.out.mono ?_
    rintro e w5 ⟨v, rfl, ho, hb⟩
    have HB5 := hide (below_next HB0.out hb)
    have h5 := HBL.out.below hb
    have x1 := h5.cell 1
    have x4 := h5.cell 4
    have xl := h5.lt
    have HR5 := hide (HR.out.below SyAt.stable hb)
    have HLN := hide hln
    obtain ⟨a, c, rfl, hc⟩ := own_shape ho
    obtain ⟨hl, hhl⟩ : ∃ hl, holesOf sy 0 = hl := ⟨_, rfl⟩
    rw [hhl] at hc HF
    have hml : ∀ h, h ∈ hl → h < sy.length := fun h hm => by have := HML.out h (by show h ∈ holesOf sy 0; rw [hhl]; exact hm); simpa using this.2
    rw [hhl]
    clear ho hhl hb h5 hln
    match hl, hc, HF, hml with
    | [], hc, HF, hml =>
      clear hc hml
      go_upto_region 4 with fail
      go_quiet (fail)
      go_wp2_with fail
      go_ret
      exact ⟨by rw [HF.out]; rfl, HB5.out.trans ⟨rfl, rfl, rfl, Nat.le_refl _, fun _ _ => rfl⟩⟩
    | x :: y :: r, hc, HF, hml =>
      have hn1 : ((((x :: y :: r).length : Nat) : Int) != 1) = true := by simp only [List.length_cons]; simp only [bne_iff_ne]; omega
      have hn2 : ((((x :: y :: r).length : Nat) : Int) == 1) = false := by simp only [List.length_cons]; rw [beq_eq_false_iff_ne]; omega
      have hn3 : ¬ (((x :: y :: r).length : Nat) : Int) = 1 := by simp only [List.length_cons]; omega
      obtain ⟨q, hq⟩ : ∃ q, (x :: y :: r).length = q := ⟨_, rfl⟩
      have HF2 := hide (show res = true by rw [HF.out]; rfl)
      rw [hq] at hn1 hn2 hn3 ⊢
      clear hc hml hq HF
      go_upto_region 4 with fail
      go_quiet (fail)
      go_wp2_with fail
      go_ret
      exact ⟨by rw [HF2.out]; rfl, HB5.out.trans ⟨rfl, rfl, rfl, Nat.le_refl _, fun _ _ => rfl⟩⟩
    | [x], hc, HF, hml =>
      obtain ⟨g, rfl, hgB, hg, hcell⟩ := hc (by simp)
      have c0 := hcell 0 _ rfl
      have hxl := hml x (by simp)
      clear hcell hml hgB
      have hsyl := HLN.out
      obtain ⟨bs, os, rfl, hbs, hat⟩ := HR5.out.get hxl
      have hx := hat x hxl
      have hgx : sy[x]? = some sy[x] := List.getElem?_eq_getElem hxl
      have HF2 := hide (show res = (decide (x = 0) || decide (x + 1 = sy.length) || (!decide (sy[x].kind = 3) || !decide (sy[x].name = so))) by rw [HF.out]; simp only [brackOf, hgx])
      generalize sy[x] = s at hx HF2
      clear hgx hat HF
      by_cases h0 : x = 0
      · subst h0
        have HF3 := hide (show res = true by rw [HF2.out]; rfl)
        clear hx HF2
        go_upto_region 4 with fail
        go_quiet (fail)
        go_wp2_with fail
        go_ret
        exact ⟨by rw [HF3.out]; rfl, HB5.out.trans ⟨rfl, rfl, rfl, Nat.le_refl _, fun _ _ => rfl⟩⟩
      · have n0 : ((x : Int) == 0) = false := by rw [beq_eq_false_iff_ne]; omega
        have n00 : ¬ (x : Int) = 0 := by omega
        by_cases h1 : x + 1 = sy.length
        · have HF3 := hide (show res = true by rw [HF2.out, decide_eq_true h1]; simp)
          have m1 : (x : Int) = (sy.length : Int) - 1 := by omega
          have m2 : ((x : Int) == (sy.length : Int) - 1) = true := by rw [m1]; exact beq_self_eq_true _
          clear hx HF2 m1 h0
          go_upto_region 4 with fail
          go_quiet (fail)
          go_wp2_with fail
          go_ret
          exact ⟨by rw [HF3.out]; rfl, HB5.out.trans ⟨rfl, rfl, rfl, Nat.le_refl _, fun _ _ => rfl⟩⟩
        · have m1 : ¬ (x : Int) = (sy.length : Int) - 1 := by omega
          have m2 : ((x : Int) == (sy.length : Int) - 1) = false := by rw [beq_eq_false_iff_ne]; omega
          obtain ⟨kd, t, st, nm, sp⟩ := s
          obtain ⟨e0, e1, e2, e3, e4, e5, e6, e7⟩ := hx.cells
          have HBX := hide (HB5.out.alloc HB5.out.size (.cells #[.int .i64 kd, .string t, .int .u64 (st.w0 : Int), .int .u64 (st.w1 : Int), .int .u64 (st.w2 : Int), .int .u64 (st.w3 : Int), .string nm, .string sp] 61))
          have HF3 := hide (show res = (!decide (kd = 3) || !decide (nm = so)) by rw [HF2.out, decide_eq_false h0, decide_eq_false h1]; rfl)
          clear hx HF2 h0 h1
          by_cases h3 : kd = 3
          · subst h3
            have hcm : (nm.toList == so.toList) = decide (nm = so) := by rw [Bool.eq_iff_iff]; simp [toList_eq_iff]
            go_upto_region 4 with fail
            go_quiet (fail)
            go_upto_region 6 with fail
            obtain ⟨w6, h6⟩ : ∃ w6, w5.drewN nq = w6 := ⟨_, rfl⟩
            have HB6 := hide (show Below w.heap.size w w6.drew by rw [← h6]; exact HB5.out.trans ⟨rfl, rfl, rfl, Nat.le_refl _, fun _ _ => rfl⟩)
            replace x1 : w6.cell? ⟨w.heap.size, 1, none⟩ = some (.string so) := by rw [← h6]; exact x1
            replace x4 : w6.cell? ⟨w.heap.size, 4, none⟩ = some (.slice (some ⟨bs, os, none⟩) sy.length cp) := by rw [← h6]; exact x4
            replace c0 : w6.cell? ⟨g, 0, none⟩ = some (.int .i64 (x : Int)) := by rw [← h6]; exact c0
            replace xl : w.heap.size < w6.heap.size := by rw [← h6]; exact xl
            replace hg : g < w6.heap.size := by rw [← h6]; exact hg
            replace hbs : bs < w6.heap.size := by rw [← h6]; exact hbs
            replace e0 : w6.cell? ⟨bs, os + x * 8, none⟩ = some (.int .i64 3) := by rw [← h6]; exact e0
            replace e1 : w6.cell? ⟨bs, os + x * 8 + 1, none⟩ = some (.string t) := by rw [← h6]; exact e1
            replace e2 : w6.cell? ⟨bs, os + x * 8 + 2, none⟩ = some (.int .u64 (st.w0 : Int)) := by rw [← h6]; exact e2
            replace e3 : w6.cell? ⟨bs, os + x * 8 + 3, none⟩ = some (.int .u64 (st.w1 : Int)) := by rw [← h6]; exact e3
            replace e4 : w6.cell? ⟨bs, os + x * 8 + 4, none⟩ = some (.int .u64 (st.w2 : Int)) := by rw [← h6]; exact e4
            replace e5 : w6.cell? ⟨bs, os + x * 8 + 5, none⟩ = some (.int .u64 (st.w3 : Int)) := by rw [← h6]; exact e5
            replace e6 : w6.cell? ⟨bs, os + x * 8 + 6, none⟩ = some (.string nm) := by rw [← h6]; exact e6
            replace e7 : w6.cell? ⟨bs, os + x * 8 + 7, none⟩ = some (.string sp) := by rw [← h6]; exact e7
            rw [h6]
            clear h6
            go_region
            go_wp2_with fail
            go_ret
            exact ⟨by rw [HF3.out, ← hcm]; simp, HB6.out.alloc HB6.out.size _⟩
          · have n1 : (kd == 3) = false := by simpa using h3
            have n2 : (kd != 3) = true := by simpa using h3
            have HF4 := hide (show res = true by rw [HF3.out, decide_eq_false h3]; rfl)
            clear HF3
            go_upto_region 4 with fail
            go_quiet (fail)
            go_upto_region 6 with fail
            obtain ⟨w6, h6⟩ : ∃ w6, w5.drewN nq = w6 := ⟨_, rfl⟩
            have HB6 := hide (show Below w.heap.size w w6.drew by rw [← h6]; exact HB5.out.trans ⟨rfl, rfl, rfl, Nat.le_refl _, fun _ _ => rfl⟩)
            replace x1 : w6.cell? ⟨w.heap.size, 1, none⟩ = some (.string so) := by rw [← h6]; exact x1
            replace x4 : w6.cell? ⟨w.heap.size, 4, none⟩ = some (.slice (some ⟨bs, os, none⟩) sy.length cp) := by rw [← h6]; exact x4
            replace c0 : w6.cell? ⟨g, 0, none⟩ = some (.int .i64 (x : Int)) := by rw [← h6]; exact c0
            replace xl : w.heap.size < w6.heap.size := by rw [← h6]; exact xl
            replace hg : g < w6.heap.size := by rw [← h6]; exact hg
            replace hbs : bs < w6.heap.size := by rw [← h6]; exact hbs
            replace e0 : w6.cell? ⟨bs, os + x * 8, none⟩ = some (.int .i64 kd) := by rw [← h6]; exact e0
            replace e1 : w6.cell? ⟨bs, os + x * 8 + 1, none⟩ = some (.string t) := by rw [← h6]; exact e1
            replace e2 : w6.cell? ⟨bs, os + x * 8 + 2, none⟩ = some (.int .u64 (st.w0 : Int)) := by rw [← h6]; exact e2
            replace e3 : w6.cell? ⟨bs, os + x * 8 + 3, none⟩ = some (.int .u64 (st.w1 : Int)) := by rw [← h6]; exact e3
            replace e4 : w6.cell? ⟨bs, os + x * 8 + 4, none⟩ = some (.int .u64 (st.w2 : Int)) := by rw [← h6]; exact e4
            replace e5 : w6.cell? ⟨bs, os + x * 8 + 5, none⟩ = some (.int .u64 (st.w3 : Int)) := by rw [← h6]; exact e5
            replace e6 : w6.cell? ⟨bs, os + x * 8 + 6, none⟩ = some (.string nm) := by rw [← h6]; exact e6
            replace e7 : w6.cell? ⟨bs, os + x * 8 + 7, none⟩ = some (.string sp) := by rw [← h6]; exact e7
            rw [h6]
            clear h6
            go_region
            go_wp2_with fail
            go_ret
            exact ⟨by rw [HF4.out]; rfl, HB6.out.alloc HB6.out.size _⟩
end Go.Proofs.Ytalicfpcmcbdbaa
