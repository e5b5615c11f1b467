/- The reference: null. -/
import Derived.Test.YtalicfpcmcbdbaaZCkB
import Derived.Test.YtalicfpcmcbdbaaZRgL
import Derived.BigQuiet
set_option linter.unusedVariables false
set_option linter.unusedSimpArgs false
set_option linter.unnecessarySimpa false
set_option linter.deprecated false
namespace Go.Proofs.Ytalicfpcmcbdbaa
open Go.RowKit

theorem leftN_all : ∀ (l : List Sy), l.all leftB = decide (leftN l = l.length)
  | [] => rfl
  | x :: l => by
    have h1 := leftN_le l
    have h2 : leftN (x :: l) = (if leftB x = true then 1 else 0) + leftN l := by
      unfold leftN
      rw [List.filter_cons]
      cases leftB x <;> simp <;> omega
    rw [List.all_cons, leftN_all l, h2]
    cases leftB x
    · simp; omega
    · simp; constructor <;> intro h <;> omega
set_option maxHeartbeats 800000 in
set_option maxRecDepth 100000 in
theorem rnull_any (p : Pd) (ap : Option Addr) (cp : Nat) (w : World) (hr : Row SyAt 8 p.syms ap w) (hpl : p.syms.length ≤ 10000) : Calls Try.prog 97 #[.agg #[.bool p.lex, .string p.sort, .string p.cons, .bool p.bracket, .slice ap p.syms.length cp]] w fun e w' => e = .returned (.bool (nullB p)) ∧ Below w.heap.size w w' := by
  have HB0 := hide ((Below.refl w.heap.size w).alloc (Nat.le_refl _) (.cells #[.bool p.lex, .string p.sort, .string p.cons, .bool p.bracket, .slice ap p.syms.length cp] 38))
  have HX0 := hide (Blk.new w #[.bool p.lex, .string p.sort, .string p.cons, .bool p.bracket, .slice ap p.syms.length cp] 38)
  have HR := hide (hr.below SyAt.stable HB0.out)
  obtain ⟨res, hres⟩ : ∃ r, nullB p = r := ⟨_, rfl⟩
  rw [hres]
  have HRES := hide hres
  obtain ⟨lx, so, cn, br, sy⟩ := p
  have hpl : sy.length ≤ 10000 := hpl
  clear hr hres
  go_enter Try.func97, Try.ntmps97
  go_upto_region 1 with fail
  obtain ⟨kx, hkx⟩ : ∃ kx, w.heap.size = kx := ⟨_, rfl⟩
  obtain ⟨w1, h1⟩ : ∃ w1, w.alloc (.cells #[.bool lx, .string so, .string cn, .bool br, .slice ap sy.length cp] 38) = w1 := ⟨_, rfl⟩
  replace HB0 := hide (show Below w.heap.size w w1 by rw [← h1]; exact HB0.out)
  replace HX0 := hide (show Blk w1 kx #[.bool lx, .string so, .string cn, .bool br, .slice ap sy.length cp] 38 by rw [← h1, ← hkx]; exact HX0.out)
  replace HR := hide (show Row SyAt 8 sy ap w1 by rw [← h1]; exact HR.out)
  rw [h1, hkx]
  clear h1 hkx
  go_wp2_with fail
  go_loopg [3] sy.length (fun u v3 wr => ∃ k : Nat, Hid (u = sy.length - k) ∧ v3 = .int .i64 (k : Int) ∧ Hid (k ≤ sy.length ∧ w1 = wr ∧ ∀ j (h : j < sy.length), j < k → nullS sy[j] = false))
  case atStart => exact ⟨0, hide rfl, rfl, hide ⟨Nat.zero_le _, rfl, fun _ _ h => absurd h (Nat.not_lt_zero _)⟩⟩
  case round =>
    obtain ⟨k, hu, rfl, hh⟩ := hrel
    have hkl := hh.out.1
    obtain rfl := hh.out.2.1
    have x4 := HX0.out.cell 4
    have xl := HX0.out.lt
    by_cases hlt : k < sy.length
    · have hlti : (k : Int) < (sy.length : Int) := by omega
      obtain ⟨b, o, rfl, hb, hat⟩ := HR.out.get hlt
      have hx := hat k hlt
      have HNX := hide (fun (hf : nullS sy[k] = false) => (show ∀ j (h : j < sy.length), j < k + 1 → nullS sy[j] = false from fun j h hj => by
        by_cases e : j = k
        · subst e; exact hf
        · exact hh.out.2.2 j h (by omega)))
      have HHI := hide (fun (ht : nullS sy[k] = true) => (show res = true by
        rw [← HRES.out]
        unfold nullB
        rw [show (sy.any nullS) = true from List.any_eq_true.2 ⟨sy[k], List.getElem_mem hlt, ht⟩]; rfl))
      generalize sy[k] = x at hx HNX HHI
      clear hat
      obtain ⟨kd, t, st, nm, sp⟩ := x
      obtain ⟨e0, e1, e2, e3, e4, e5, e6, e7⟩ := hx.cells
      clear hx
      by_cases h1 : kd = 1
      · subst h1
        rcases emp_or t with ⟨bn, zn, yn, vn, xn⟩ | ⟨bn, zn, yn, vn, xn⟩
        · have hne : (t.toList == []) = true := by rw [xn]; rfl
          have hne2 : (!t.toList == []) = false := by rw [hne]; rfl
          have HR2 := hide (HHI.out (by unfold nullS; rw [zn.out]; rfl))
          go_wp2_with fail
          go_ret
          exact ⟨by rw [HR2.out]; rfl, HB0.out⟩
        · have hne : (t.toList == []) = false := beq_eq_false_iff_ne.2 xn
          have hne2 : (!t.toList == []) = true := by rw [hne]; rfl
          have HN := hide (HNX.out (by unfold nullS; rw [zn.out]; simp))
          go_wp2_with fail
          go_roundg (sy.length - (k + 1))
          case measure => rw [hu.out]; omega
          case rel => exact ⟨k + 1, hide rfl, by go_num, hide ⟨hlt, rfl, HN.out⟩⟩
      · have n1 : (kd == 1) = false := by simpa using h1
        have HN := hide (HNX.out (by unfold nullS; rw [decide_eq_false h1]; rfl))
        clear h1
        go_wp2_with fail
        go_roundg (sy.length - (k + 1))
        case measure => rw [hu.out]; omega
        case rel => exact ⟨k + 1, hide rfl, by go_num, hide ⟨hlt, rfl, HN.out⟩⟩
    · have hlti : ¬ (k : Int) < (sy.length : Int) := by omega
      have HKE := hide (show decide (leftN sy = sy.length) = res by
        rw [← HRES.out]
        unfold nullB
        rw [← leftN_all, show (sy.any nullS) = false from by
          rw [Bool.eq_false_iff]
          intro h
          obtain ⟨x, hx, ht⟩ := List.any_eq_true.1 h
          obtain ⟨j, hj, rfl⟩ := List.mem_iff_getElem.1 hx
          rw [hh.out.2.2 j hj (by omega)] at ht
          cases ht]
        rfl)
      have HO := hide (fun (W : World) (h : Below w1.heap.size w1 W) => omitted_any ⟨lx, so, cn, br, sy⟩ ap cp W (HR.out.below SyAt.stable h) hpl)
      have HS := hide (fun (W : World) (h : Below w1.heap.size w1 W) => (show (Hid (Below w1.heap.size w1 W) ∧ kx < W.heap.size ∧ W.cell? ⟨kx, 0, none⟩ = some (.bool lx) ∧ W.cell? ⟨kx, 1, none⟩ = some (.string so) ∧ W.cell? ⟨kx, 2, none⟩ = some (.string cn) ∧ W.cell? ⟨kx, 3, none⟩ = some (.bool br) ∧ W.cell? ⟨kx, 4, none⟩ = some (.slice ap sy.length cp)) from
        have q := HX0.out.below h
        ⟨hide h, q.lt, q.cell 0, q.cell 1, q.cell 2, q.cell 3, q.cell 4⟩))
      have HS0 := hide (HS.out _ (Below.refl w1.heap.size w1).drew)
      go_upto_region 6 with fail
      clear x4 xl
      refine wp_region_lex 5 [(0, true), (2, true), (3, true), (4, true), (1, false)] (fun W => (Hid (Below w1.heap.size w1 W) ∧ kx < W.heap.size ∧ W.cell? ⟨kx, 0, none⟩ = some (.bool lx) ∧ W.cell? ⟨kx, 1, none⟩ = some (.string so) ∧ W.cell? ⟨kx, 2, none⟩ = some (.string cn) ∧ W.cell? ⟨kx, 3, none⟩ = some (.bool br) ∧ W.cell? ⟨kx, 4, none⟩ = some (.slice ap sy.length cp))) rfl (by kernel_rfl) (by kernel_rfl) (fun _ _ d _ _ h => by cases d <;> exact h) HS0.out (fun hS0 => ?_)
      simp only [lexOps, List.filterMap_cons, List.filterMap_nil, List.getElem?_cons_zero, List.getElem?_cons_succ, Option.map_some, List.drop_succ_cons, List.drop_zero]
      repeat
        refine wpLex_take (v := ?_) (by rfl) ?_ ?_
        rotate_left
        · intro w hSw
          (try dsimp only at hSw)
          go_simp
          try with_reducible rfl
        try simp only [Act.put, List.setIfInBounds_toArray, List.set_cons_zero, List.set_cons_succ]
      refine wpLex_step (fun K hK => ?_)
      go_simp
      refine (HO.out _ (Below.refl w1.heap.size w1).drew).mono ?_
      rintro e w2 ⟨rfl, hb2⟩
      replace hb2 := below_next (Below.refl w1.heap.size w1).drew hb2
      refine hK _ _ (HS.out _ hb2) (fun hS1 => ?_)
      try simp only [Act.put, List.setIfInBounds_toArray, List.set_cons_zero, List.set_cons_succ]
      refine wpLex_nil ?_
      by_cases hz : leftN sy = sy.length
      · have hz1 : ((leftN sy : Int) == (sy.length : Int)) = true := by rw [hz]; simp
        have hz2 : (leftN sy == sy.length) = true := by rw [hz]; simp
        have HZ := hide (show res = true by rw [← HKE.out]; exact decide_eq_true hz)
        clear hz
        go_wp2_with fail
        go_ret
        exact ⟨by rw [HZ.out]; rfl, below_next HB0.out hb2⟩
      · have hz1 : ((leftN sy : Int) == (sy.length : Int)) = false := beq_eq_false_iff_ne.2 (by omega)
        have hz2 : (leftN sy == sy.length) = false := beq_eq_false_iff_ne.2 hz
        have HZ := hide (show res = false by rw [← HKE.out]; exact decide_eq_false hz)
        clear hz
        go_wp2_with fail
        go_ret
        exact ⟨by rw [HZ.out]; rfl, below_next HB0.out hb2⟩
end Go.Proofs.Ytalicfpcmcbdbaa
