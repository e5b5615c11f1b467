/- The reference: name, RightSym. The reference: rightProd, rightChain. -/
import Derived.Test.YtalicfpcmcbdbaaZRName
import Derived.Test.YtalicfpcmcbdbaaZEqT
import Derived.Test.YtalicfpcmcbdbaaZRSym
import Derived.Test.YtalicfpcmcbdbaaZCkF
import Derived.Test.YtalicfpcmcbdbaaZCpE
import Derived.Test.YtalicfpcmcbdbaaZRProd
import Derived.Test.YtalicfpcmcbdbaaZRChain
set_option linter.unusedVariables false
set_option linter.unusedSimpArgs false
set_option linter.unnecessarySimpa false
set_option linter.deprecated false
namespace Go.Proofs.Ytalicfpcmcbdbaa
open Go.RowKit

theorem emp_iff (s : ByteArray) : emp s = true ↔ s = emptyB := by
  unfold emp
  rw [List.isEmpty_iff]
  exact ⟨fun h => (toList_eq_iff _ _).1 (by rw [h]; kernel_rfl), fun h => by rw [h]; kernel_rfl⟩
theorem bne_eq_not_decide (a b : Int) : (a != b) = !decide (a = b) := by
  rw [Bool.eq_iff_iff]; simp
theorem Blk.setO {w : World} {k k' : Nat} {c : Array Value} {t : TypeId} (h : Blk w k c t) (hne : k ≠ k') (i : Nat) (x : Value) : Blk (w.setCell ⟨k', i, none⟩ x) k c t := h.grown (grown_cell w k' i x) (fun e => hne (by injection e))
/-- What a right symbol of its kind says besides. -/
def bareS (x : Sy) : Sy := ⟨x.kind, if x.kind = 1 then x.text else emptyB, if x.kind = 2 ∨ (4 ≤ x.kind ∧ emp x.name = true) then x.set else zS, if 3 ≤ x.kind then x.name else emptyB, if 5 ≤ x.kind ∧ emp x.name = false then x.sep else emptyB⟩
theorem short_e : short emptyB := by unfold short; show (0 : Nat) ≤ _; omega
theorem bareS_ok {x : Sy} (h : x.ok) : (bareS x).ok := by
  unfold bareS
  refine ⟨h.k, ?_, ?_, ?_, ?_⟩
  · simp only; split
    · exact h.t
    · exact short_e
  · simp only; split
    · exact h.s
    · exact zS_ok
  · simp only; split
    · exact h.n
    · exact short_e
  · simp only; split
    · exact h.p
    · exact short_e
theorem named_e : namedB emptyB true = true := by unfold namedB; rw [emp_emptyB]; rfl
theorem size_e : emptyB.size = 0 := rfl
theorem rightSyB_bare (x : Sy) (hk : 1 ≤ x.kind ∧ x.kind ≤ 6) : rightSyB x = (decide (x = bareS x) && decide (x.text.size ≤ 32) && decide (x.sep.size ≤ 32) && namedB x.name (!decide (x.kind = 3))) := by
  obtain ⟨kd, t, st, nm, sp⟩ := x
  simp only at hk
  rw [Bool.eq_iff_iff]
  rcases (show kd = 1 ∨ kd = 2 ∨ kd = 3 ∨ kd = 4 ∨ kd = 5 ∨ kd = 6 by omega) with rfl | rfl | rfl | rfl | rfl | rfl
  · have hb : bareS ⟨1, t, st, nm, sp⟩ = ⟨1, t, zS, emptyB, emptyB⟩ := rfl
    rw [hb]
    unfold rightSyB setZ
    simp only [if_true, Bool.and_eq_true, decide_eq_true_eq, emp_iff, Sy.mk.injEq, true_and]
    constructor
    · rintro ⟨⟨⟨h1, h2⟩, h3⟩, h4⟩
      subst h3 h4
      exact ⟨⟨⟨⟨h2, rfl, rfl⟩, h1⟩, by rw [size_e]; omega⟩, named_e⟩
    · rintro ⟨⟨⟨⟨h2, h3, h4⟩, h1⟩, _⟩, _⟩
      exact ⟨⟨⟨h1, h2⟩, h3⟩, h4⟩
  · have hb : bareS ⟨2, t, st, nm, sp⟩ = ⟨2, emptyB, st, emptyB, emptyB⟩ := rfl
    rw [hb]
    unfold rightSyB setZ
    simp only [show ¬ ((2 : Int) = 1) by decide, if_false, if_true, Bool.and_eq_true, decide_eq_true_eq, emp_iff, Sy.mk.injEq, true_and]
    constructor
    · rintro ⟨⟨h1, h3⟩, h4⟩
      subst h1 h3 h4
      exact ⟨⟨⟨⟨rfl, rfl, rfl⟩, by rw [size_e]; omega⟩, by rw [size_e]; omega⟩, named_e⟩
    · rintro ⟨⟨⟨⟨h2, h3, h4⟩, _⟩, _⟩, _⟩
      exact ⟨⟨h2, h3⟩, h4⟩
  · have hb : bareS ⟨3, t, st, nm, sp⟩ = ⟨3, emptyB, zS, nm, emptyB⟩ := rfl
    rw [hb]
    unfold rightSyB setZ
    simp only [show ¬ ((3 : Int) = 1) by decide, show ¬ ((3 : Int) = 2) by decide, if_false, if_true, Bool.and_eq_true, decide_eq_true_eq, emp_iff, Sy.mk.injEq, true_and, decide_true, Bool.not_true]
    constructor
    · rintro ⟨⟨⟨h1, h2⟩, h3⟩, h4⟩
      subst h1 h4
      exact ⟨⟨⟨⟨rfl, h2, rfl⟩, by rw [size_e]; omega⟩, by rw [size_e]; omega⟩, h3⟩
    · rintro ⟨⟨⟨⟨h1, h2, h4⟩, _⟩, _⟩, h3⟩
      exact ⟨⟨⟨h1, h2⟩, h3⟩, h4⟩
  · cases he : emp nm with
    | true =>
      have hn : nm = emptyB := (emp_iff _).1 he
      subst hn
      have hb : bareS ⟨4, t, st, emptyB, sp⟩ = ⟨4, emptyB, st, emptyB, emptyB⟩ := by unfold bareS; simp only; rw [he]; rfl
      rw [hb]
      unfold rightSyB setZ
      simp only [show ¬ ((4 : Int) = 1) by decide, show ¬ ((4 : Int) = 2) by decide, show ¬ ((4 : Int) = 3) by decide, if_false, if_true, Bool.and_eq_true, Bool.or_eq_true, decide_eq_true_eq, emp_iff, Sy.mk.injEq, true_and, and_true, true_or, he]
      constructor
      · rintro ⟨h1, h4⟩
        subst h1 h4
        exact ⟨⟨⟨⟨rfl, rfl⟩, by rw [size_e]; omega⟩, by rw [size_e]; omega⟩, named_e⟩
      · rintro ⟨⟨⟨⟨h1, h4⟩, _⟩, _⟩, _⟩
        exact ⟨h1, h4⟩
    | false =>
      have hb : bareS ⟨4, t, st, nm, sp⟩ = ⟨4, emptyB, zS, nm, emptyB⟩ := by unfold bareS; simp only; rw [he]; rfl
      have hnn : nm ≠ emptyB := fun h => by rw [(emp_iff _).2 h] at he; cases he
      have hnb : namedB nm true = namedB nm false := by unfold namedB; rw [he]; rfl
      rw [hb]
      unfold rightSyB setZ
      simp only [show ¬ ((4 : Int) = 1) by decide, show ¬ ((4 : Int) = 2) by decide, show ¬ ((4 : Int) = 3) by decide, if_false, if_true, Bool.and_eq_true, Bool.or_eq_true, decide_eq_true_eq, emp_iff, Sy.mk.injEq, true_and, hnn, false_or, decide_false, Bool.not_false, hnb]
      constructor
      · rintro ⟨⟨h1, h4⟩, h2, h3⟩
        subst h1 h4
        exact ⟨⟨⟨⟨rfl, h2, rfl⟩, by rw [size_e]; omega⟩, by rw [size_e]; omega⟩, h3⟩
      · rintro ⟨⟨⟨⟨h1, h2, h4⟩, _⟩, _⟩, h3⟩
        exact ⟨⟨h1, h4⟩, h2, h3⟩
  · cases he : emp nm with
    | true =>
      have hn : nm = emptyB := (emp_iff _).1 he
      subst hn
      have hb : bareS ⟨5, t, st, emptyB, sp⟩ = ⟨5, emptyB, st, emptyB, emptyB⟩ := by unfold bareS; simp only; rw [he]; rfl
      rw [hb]
      unfold rightSyB setZ
      simp only [show ¬ ((5 : Int) = 1) by decide, show ¬ ((5 : Int) = 2) by decide, show ¬ ((5 : Int) = 3) by decide, show ¬ ((5 : Int) = 4) by decide, if_false, if_true, true_or, or_true, Bool.and_eq_true, decide_eq_true_eq, emp_iff, Sy.mk.injEq, true_and, he]
      constructor
      · rintro ⟨h1, h4⟩
        subst h1 h4
        exact ⟨⟨⟨⟨rfl, rfl⟩, by rw [size_e]; omega⟩, by rw [size_e]; omega⟩, named_e⟩
      · rintro ⟨⟨⟨⟨h1, h4⟩, _⟩, _⟩, _⟩
        exact ⟨h1, h4⟩
    | false =>
      have hb : bareS ⟨5, t, st, nm, sp⟩ = ⟨5, emptyB, zS, nm, sp⟩ := by unfold bareS; simp only; rw [he]; rfl
      have hnb : namedB nm true = namedB nm false := by unfold namedB; rw [he]; rfl
      have hnn : nm ≠ emptyB := fun h => by rw [(emp_iff _).2 h] at he; cases he
      rw [hb]
      unfold rightSyB setZ
      simp only [show ¬ ((5 : Int) = 1) by decide, show ¬ ((5 : Int) = 2) by decide, show ¬ ((5 : Int) = 3) by decide, show ¬ ((5 : Int) = 4) by decide, if_false, if_true, true_or, or_true, Bool.and_eq_true, decide_eq_true_eq, emp_iff, Sy.mk.injEq, true_and, and_true, hnn, decide_false, Bool.not_false, hnb]
      constructor
      · rintro ⟨⟨⟨h1, h2⟩, h3⟩, h4⟩
        subst h1
        exact ⟨⟨⟨⟨rfl, h2⟩, by rw [size_e]; omega⟩, h4⟩, h3⟩
      · rintro ⟨⟨⟨⟨h1, h2⟩, _⟩, h4⟩, h3⟩
        exact ⟨⟨⟨h1, h2⟩, h3⟩, h4⟩
  · cases he : emp nm with
    | true =>
      have hn : nm = emptyB := (emp_iff _).1 he
      subst hn
      have hb : bareS ⟨6, t, st, emptyB, sp⟩ = ⟨6, emptyB, st, emptyB, emptyB⟩ := by unfold bareS; simp only; rw [he]; rfl
      rw [hb]
      unfold rightSyB setZ
      simp only [show ¬ ((6 : Int) = 1) by decide, show ¬ ((6 : Int) = 2) by decide, show ¬ ((6 : Int) = 3) by decide, show ¬ ((6 : Int) = 4) by decide, show ¬ ((6 : Int) = 5) by decide, if_false, if_true, true_or, or_true, Bool.and_eq_true, decide_eq_true_eq, emp_iff, Sy.mk.injEq, true_and, he]
      constructor
      · rintro ⟨h1, h4⟩
        subst h1 h4
        exact ⟨⟨⟨⟨rfl, rfl⟩, by rw [size_e]; omega⟩, by rw [size_e]; omega⟩, named_e⟩
      · rintro ⟨⟨⟨⟨h1, h4⟩, _⟩, _⟩, _⟩
        exact ⟨h1, h4⟩
    | false =>
      have hb : bareS ⟨6, t, st, nm, sp⟩ = ⟨6, emptyB, zS, nm, sp⟩ := by unfold bareS; simp only; rw [he]; rfl
      have hnb : namedB nm true = namedB nm false := by unfold namedB; rw [he]; rfl
      have hnn : nm ≠ emptyB := fun h => by rw [(emp_iff _).2 h] at he; cases he
      rw [hb]
      unfold rightSyB setZ
      simp only [show ¬ ((6 : Int) = 1) by decide, show ¬ ((6 : Int) = 2) by decide, show ¬ ((6 : Int) = 3) by decide, show ¬ ((6 : Int) = 4) by decide, show ¬ ((6 : Int) = 5) by decide, if_false, if_true, true_or, or_true, Bool.and_eq_true, decide_eq_true_eq, emp_iff, Sy.mk.injEq, true_and, and_true, hnn, decide_false, Bool.not_false, hnb]
      constructor
      · rintro ⟨⟨⟨h1, h2⟩, h3⟩, h4⟩
        subst h1
        exact ⟨⟨⟨⟨rfl, h2⟩, by rw [size_e]; omega⟩, h4⟩, h3⟩
      · rintro ⟨⟨⟨⟨h1, h2⟩, _⟩, h4⟩, h3⟩
        exact ⟨⟨⟨h1, h2⟩, h3⟩, h4⟩
set_option maxHeartbeats 800000 in
set_option maxRecDepth 100000 in
theorem refName_any (s : ByteArray) (e : Bool) (w : World) (hs : short s) : Calls Try.prog 89 #[.string s, .bool e] w fun r w' => r = .returned (.bool (namedB s e)) ∧ w = w' := by
  have HN := hide (risName_any s w hs)
  rcases emp_or s with ⟨b, z, z1, z2, z3⟩ | ⟨b, z, z1, z2, z3⟩ <;> cases e
  all_goals
    go_enter Try.func89, Try.ntmps89
    go_wp2_with (go_at_call 102; refine HN.out.mono ?_; rintro e w' ⟨rfl, rfl⟩)
    go_ret
    exact ⟨ret_bool (by unfold namedB; rw [z.out]; rfl), rfl⟩
set_option maxHeartbeats 800000 in
set_option maxRecDepth 100000 in
theorem refSym_any (x : Sy) (hx : x.ok) (w : World) : Calls Try.prog 103 #[.agg #[.int .i64 x.kind, .string x.text, .int .u64 (x.set.w0 : Int), .int .u64 (x.set.w1 : Int), .int .u64 (x.set.w2 : Int), .int .u64 (x.set.w3 : Int), .string x.name, .string x.sep]] w fun e w' => e = .returned (.bool (rightSyB x)) ∧ Below w.heap.size w w' := by
  obtain ⟨kd, t, st, nm, sp⟩ := x
  obtain ⟨res, hres⟩ : ∃ r, rightSyB ⟨kd, t, st, nm, sp⟩ = r := ⟨_, rfl⟩
  have HRES := hide hres
  rw [hres]
  clear hres
  have HX := hide hx
  clear hx
  go_enter Try.func103, Try.ntmps103
  go_upto_region 2 with fail
  obtain ⟨kx, hkx⟩ : ∃ kx, w.heap.size = kx := ⟨_, rfl⟩
  obtain ⟨w1, h1⟩ : ∃ w1, w.alloc (.cells #[.int .i64 kd, .string t, .int .u64 (st.w0 : Int), .int .u64 (st.w1 : Int), .int .u64 (st.w2 : Int), .int .u64 (st.w3 : Int), .string nm, .string sp] 61) = w1 := ⟨_, rfl⟩
  have HB1 := hide (show Below w.heap.size w w1 by rw [← h1]; exact NB.alloc (Below.refl _ _) _)
  have HX1 := hide (show Blk w1 kx #[.int .i64 kd, .string t, .int .u64 (st.w0 : Int), .int .u64 (st.w1 : Int), .int .u64 (st.w2 : Int), .int .u64 (st.w3 : Int), .string nm, .string sp] 61 by rw [← h1, ← hkx]; exact Blk.new w _ _)
  have hs1 : w1.heap.size = kx + 1 := by rw [← h1, ← hkx]; simp
  rw [h1, hkx]
  obtain ⟨kb, hkb⟩ : ∃ kb, kx + 1 = kb := ⟨_, rfl⟩
  obtain ⟨w2, h2⟩ : ∃ w2, w1.alloc (.cells #[.int .i64 kd, .string ⟨#[]⟩, .int .u64 0, .int .u64 0, .int .u64 0, .int .u64 0, .string ⟨#[]⟩, .string ⟨#[]⟩] 61) = w2 := ⟨_, rfl⟩
  have hb2 : Below w1.heap.size w1 w2 := by rw [← h2]; exact NB.alloc (Below.refl _ _) _
  have HX2 := hide (HX1.out.below hb2)
  have HY2 := hide (show Blk w2 kb #[.int .i64 kd, .string ⟨#[]⟩, .int .u64 0, .int .u64 0, .int .u64 0, .int .u64 0, .string ⟨#[]⟩, .string ⟨#[]⟩] 61 by rw [← h2, ← hkb, ← hs1]; exact Blk.new w1 _ _)
  have HB2 := hide (below_next HB1.out hb2)
  have HKB := hide (show w.heap.size ≤ kb by omega)
  have HNE := hide (show kx ≠ kb by omega)
  rw [h2, hkb]
  clear h1 hkx h2 hkb hs1 hb2
  by_cases hk : 1 ≤ kd ∧ kd ≤ 6
  case neg =>
    have HF := hide (show res = false by
      rw [← HRES.out]
      unfold rightSyB
      simp only
      rw [if_neg (show ¬ kd = 1 by omega), if_neg (show ¬ kd = 2 by omega), if_neg (show ¬ kd = 3 by omega), if_neg (show ¬ kd = 4 by omega), if_neg (show ¬ (kd = 5 ∨ kd = 6) by omega)])
    have n1 : (kd == 1) = false := beq_eq_false_iff_ne.2 (by omega)
    have n2 : (kd == 2) = false := beq_eq_false_iff_ne.2 (by omega)
    have n3 : (kd == 3) = false := beq_eq_false_iff_ne.2 (by omega)
    have n4 : (kd == 4) = false := beq_eq_false_iff_ne.2 (by omega)
    have n5 : (kd == 5) = false := beq_eq_false_iff_ne.2 (by omega)
    have n6 : (kd == 6) = false := beq_eq_false_iff_ne.2 (by omega)
    have x0 := HX2.out.cell 0
    have xl := HX2.out.lt
    clear hk
    go_wp2_with fail
    go_ret
    exact ⟨by rw [HF.out]; rfl, HB2.out⟩
  have HK := hide hk
  clear hk
  have x0 := HX2.out.cell 0
  have xl := HX2.out.lt
  go_upto_block 0 with fail
  go_cut [] from 9 to 43 (fun wc => ∃ bt bs bn bp, Hid (bareS ⟨kd, t, st, nm, sp⟩ = ⟨kd, bt, bs, bn, bp⟩ ∧ Below w.heap.size w wc ∧ Blk wc kx #[.int .i64 kd, .string t, .int .u64 (st.w0 : Int), .int .u64 (st.w1 : Int), .int .u64 (st.w2 : Int), .int .u64 (st.w3 : Int), .string nm, .string sp] 61 ∧ Blk wc kb #[.int .i64 kd, .string bt, .int .u64 (bs.w0 : Int), .int .u64 (bs.w1 : Int), .int .u64 (bs.w2 : Int), .int .u64 (bs.w3 : Int), .string bn, .string bp] 61))
  case first =>
    have y1 := HY2.out.free 1
    have c1 := HY2.out.cell 1
    have x1 := HX2.out.cell 1
    have y2 := HY2.out.free 2
    have c2 := HY2.out.cell 2
    have x2 := HX2.out.cell 2
    have y3 := HY2.out.free 3
    have c3 := HY2.out.cell 3
    have x3 := HX2.out.cell 3
    have y4 := HY2.out.free 4
    have c4 := HY2.out.cell 4
    have x4 := HX2.out.cell 4
    have y5 := HY2.out.free 5
    have c5 := HY2.out.cell 5
    have x5 := HX2.out.cell 5
    have y6 := HY2.out.free 6
    have c6 := HY2.out.cell 6
    have x6 := HX2.out.cell 6
    have y7 := HY2.out.free 7
    have c7 := HY2.out.cell 7
    have x7 := HX2.out.cell 7
    have yl := HY2.out.lt
    have ne1 : ¬ kx = kb := HNE.out
    have ne2 : ¬ kb = kx := fun h => HNE.out h.symm
    rcases (show kd = 1 ∨ kd = 2 ∨ kd = 3 ∨ kd = 4 ∨ kd = 5 ∨ kd = 6 by have := HK.out; omega) with rfl | rfl | rfl | rfl | rfl | rfl
    · go_wp2_with fail
      go_meet
      exact ⟨_, _, _, _, hide ⟨(show bareS ⟨1, t, st, nm, sp⟩ = ⟨1, t, zS, emptyB, emptyB⟩ by rfl), (HB2.out).setCell HKB.out (.string t), (HX2.out).setO HNE.out 1 (.string t), (HY2.out).set 1 (.string t)⟩⟩
    · go_wp2_with fail
      go_meet
      exact ⟨_, _, _, _, hide ⟨(show bareS ⟨2, t, st, nm, sp⟩ = ⟨2, emptyB, st, emptyB, emptyB⟩ by rfl), ((((HB2.out).setCell HKB.out (.int .u64 (st.w0 : Int))).setCell HKB.out (.int .u64 (st.w1 : Int))).setCell HKB.out (.int .u64 (st.w2 : Int))).setCell HKB.out (.int .u64 (st.w3 : Int)), ((((HX2.out).setO HNE.out 2 (.int .u64 (st.w0 : Int))).setO HNE.out 3 (.int .u64 (st.w1 : Int))).setO HNE.out 4 (.int .u64 (st.w2 : Int))).setO HNE.out 5 (.int .u64 (st.w3 : Int)), ((((HY2.out).set 2 (.int .u64 (st.w0 : Int))).set 3 (.int .u64 (st.w1 : Int))).set 4 (.int .u64 (st.w2 : Int))).set 5 (.int .u64 (st.w3 : Int))⟩⟩
    · go_wp2_with fail
      go_meet
      exact ⟨_, _, _, _, hide ⟨(show bareS ⟨3, t, st, nm, sp⟩ = ⟨3, emptyB, zS, nm, emptyB⟩ by rfl), (HB2.out).setCell HKB.out (.string nm), (HX2.out).setO HNE.out 6 (.string nm), (HY2.out).set 6 (.string nm)⟩⟩
    · rcases emp_or nm with ⟨bn, zn, yn, vn, xn⟩ | ⟨bn, zn, yn, vn, xn⟩
      · have hne : (nm.toList == []) = true := by rw [xn]; rfl
        have hne2 : (!nm.toList == []) = false := by rw [hne]; rfl
        go_wp2_with fail
        go_meet
        exact ⟨_, _, _, _, hide ⟨(show bareS ⟨4, t, st, nm, sp⟩ = ⟨4, emptyB, st, nm, emptyB⟩ by unfold bareS; simp only; rw [zn.out]; rfl), (((((HB2.out).setCell HKB.out (.string nm)).setCell HKB.out (.int .u64 (st.w0 : Int))).setCell HKB.out (.int .u64 (st.w1 : Int))).setCell HKB.out (.int .u64 (st.w2 : Int))).setCell HKB.out (.int .u64 (st.w3 : Int)), (((((HX2.out).setO HNE.out 6 (.string nm)).setO HNE.out 2 (.int .u64 (st.w0 : Int))).setO HNE.out 3 (.int .u64 (st.w1 : Int))).setO HNE.out 4 (.int .u64 (st.w2 : Int))).setO HNE.out 5 (.int .u64 (st.w3 : Int)), (((((HY2.out).set 6 (.string nm)).set 2 (.int .u64 (st.w0 : Int))).set 3 (.int .u64 (st.w1 : Int))).set 4 (.int .u64 (st.w2 : Int))).set 5 (.int .u64 (st.w3 : Int))⟩⟩
      · have hne : (nm.toList == []) = false := beq_eq_false_iff_ne.2 xn
        have hne2 : (!nm.toList == []) = true := by rw [hne]; rfl
        go_wp2_with fail
        go_meet
        exact ⟨_, _, _, _, hide ⟨(show bareS ⟨4, t, st, nm, sp⟩ = ⟨4, emptyB, zS, nm, emptyB⟩ by unfold bareS; simp only; rw [zn.out]; rfl), (HB2.out).setCell HKB.out (.string nm), (HX2.out).setO HNE.out 6 (.string nm), (HY2.out).set 6 (.string nm)⟩⟩
    · rcases emp_or nm with ⟨bn, zn, yn, vn, xn⟩ | ⟨bn, zn, yn, vn, xn⟩
      · have hne : (nm.toList == []) = true := by rw [xn]; rfl
        have hne2 : (!nm.toList == []) = false := by rw [hne]; rfl
        go_wp2_with fail
        go_meet
        exact ⟨_, _, _, _, hide ⟨(show bareS ⟨5, t, st, nm, sp⟩ = ⟨5, emptyB, st, nm, emptyB⟩ by unfold bareS; simp only; rw [zn.out]; rfl), (((((HB2.out).setCell HKB.out (.string nm)).setCell HKB.out (.int .u64 (st.w0 : Int))).setCell HKB.out (.int .u64 (st.w1 : Int))).setCell HKB.out (.int .u64 (st.w2 : Int))).setCell HKB.out (.int .u64 (st.w3 : Int)), (((((HX2.out).setO HNE.out 6 (.string nm)).setO HNE.out 2 (.int .u64 (st.w0 : Int))).setO HNE.out 3 (.int .u64 (st.w1 : Int))).setO HNE.out 4 (.int .u64 (st.w2 : Int))).setO HNE.out 5 (.int .u64 (st.w3 : Int)), (((((HY2.out).set 6 (.string nm)).set 2 (.int .u64 (st.w0 : Int))).set 3 (.int .u64 (st.w1 : Int))).set 4 (.int .u64 (st.w2 : Int))).set 5 (.int .u64 (st.w3 : Int))⟩⟩
      · have hne : (nm.toList == []) = false := beq_eq_false_iff_ne.2 xn
        have hne2 : (!nm.toList == []) = true := by rw [hne]; rfl
        go_wp2_with fail
        go_meet
        exact ⟨_, _, _, _, hide ⟨(show bareS ⟨5, t, st, nm, sp⟩ = ⟨5, emptyB, zS, nm, sp⟩ by unfold bareS; simp only; rw [zn.out]; rfl), ((HB2.out).setCell HKB.out (.string nm)).setCell HKB.out (.string sp), ((HX2.out).setO HNE.out 6 (.string nm)).setO HNE.out 7 (.string sp), ((HY2.out).set 6 (.string nm)).set 7 (.string sp)⟩⟩
    · rcases emp_or nm with ⟨bn, zn, yn, vn, xn⟩ | ⟨bn, zn, yn, vn, xn⟩
      · have hne : (nm.toList == []) = true := by rw [xn]; rfl
        have hne2 : (!nm.toList == []) = false := by rw [hne]; rfl
        go_wp2_with fail
        go_meet
        exact ⟨_, _, _, _, hide ⟨(show bareS ⟨6, t, st, nm, sp⟩ = ⟨6, emptyB, st, nm, emptyB⟩ by unfold bareS; simp only; rw [zn.out]; rfl), (((((HB2.out).setCell HKB.out (.string nm)).setCell HKB.out (.int .u64 (st.w0 : Int))).setCell HKB.out (.int .u64 (st.w1 : Int))).setCell HKB.out (.int .u64 (st.w2 : Int))).setCell HKB.out (.int .u64 (st.w3 : Int)), (((((HX2.out).setO HNE.out 6 (.string nm)).setO HNE.out 2 (.int .u64 (st.w0 : Int))).setO HNE.out 3 (.int .u64 (st.w1 : Int))).setO HNE.out 4 (.int .u64 (st.w2 : Int))).setO HNE.out 5 (.int .u64 (st.w3 : Int)), (((((HY2.out).set 6 (.string nm)).set 2 (.int .u64 (st.w0 : Int))).set 3 (.int .u64 (st.w1 : Int))).set 4 (.int .u64 (st.w2 : Int))).set 5 (.int .u64 (st.w3 : Int))⟩⟩
      · have hne : (nm.toList == []) = false := beq_eq_false_iff_ne.2 xn
        have hne2 : (!nm.toList == []) = true := by rw [hne]; rfl
        go_wp2_with fail
        go_meet
        exact ⟨_, _, _, _, hide ⟨(show bareS ⟨6, t, st, nm, sp⟩ = ⟨6, emptyB, zS, nm, sp⟩ by unfold bareS; simp only; rw [zn.out]; rfl), ((HB2.out).setCell HKB.out (.string nm)).setCell HKB.out (.string sp), ((HX2.out).setO HNE.out 6 (.string nm)).setO HNE.out 7 (.string sp), ((HY2.out).set 6 (.string nm)).set 7 (.string sp)⟩⟩
  case rest =>
    obtain ⟨bt, bs, bn, bp, hc⟩ := hcut
    have HBA := hide hc.out.1
    have HBC := hide hc.out.2.1
    have HX3 := hide hc.out.2.2.1
    have HY3 := hide hc.out.2.2.2
    clear hc HX2 HY2 HB2 HKB HNE x0 xl HX1 HB1
    have HQ := hide (fun W => eql_sym ⟨kd, t, st, nm, sp⟩ ⟨kd, bt, bs, bn, bp⟩ HX.out (by rw [← HBA.out]; exact bareS_ok HX.out) W)
    have HR := hide (show res = (decide ((⟨kd, t, st, nm, sp⟩ : Sy) = ⟨kd, bt, bs, bn, bp⟩) && decide (t.size ≤ 32) && decide (sp.size ≤ 32) && namedB nm (!decide (kd = 3))) by rw [← HRES.out, ← HBA.out]; exact rightSyB_bare _ HK.out)
    obtain ⟨q, hq⟩ : ∃ q, decide ((⟨kd, t, st, nm, sp⟩ : Sy) = ⟨kd, bt, bs, bn, bp⟩) = q := ⟨_, rfl⟩
    rw [hq] at HR
    have hqe : ∀ W, (binOp .eql 61 (.agg #[.int .i64 kd, .string t, .int .u64 (st.w0 : Int), .int .u64 (st.w1 : Int), .int .u64 (st.w2 : Int), .int .u64 (st.w3 : Int), .string nm, .string sp]) (.agg #[.int .i64 kd, .string bt, .int .u64 (bs.w0 : Int), .int .u64 (bs.w1 : Int), .int .u64 (bs.w2 : Int), .int .u64 (bs.w3 : Int), .string bn, .string bp])).run Try.prog W = .ok (.bool q) W := fun W => by rw [← hq]; exact HQ.out W
    have htn := HX.out.t
    have hsn := HX.out.p
    replace htn : t.size ≤ 140737488351232 := htn
    replace hsn : sp.size ≤ 140737488351232 := hsn
    clear hq HQ HBA
    have x0 := HX3.out.cell 0
    have y0 := HY3.out.cell 0
    have x1 := HX3.out.cell 1
    have y1 := HY3.out.cell 1
    have x2 := HX3.out.cell 2
    have y2 := HY3.out.cell 2
    have x3 := HX3.out.cell 3
    have y3 := HY3.out.cell 3
    have x4 := HX3.out.cell 4
    have y4 := HY3.out.cell 4
    have x5 := HX3.out.cell 5
    have y5 := HY3.out.cell 5
    have x6 := HX3.out.cell 6
    have y6 := HY3.out.cell 6
    have x7 := HX3.out.cell 7
    have y7 := HY3.out.cell 7
    have xl := HX3.out.lt
    have yl := HY3.out.lt
    cases q with
    | false =>
      have HF := hide (show res = false by rw [HR.out]; rfl)
      go_wp2_with fail
      go_ret
      exact ⟨by rw [HF.out]; rfl, HBC.out⟩
    | true =>
      by_cases h1 : t.size ≤ 32
      case neg =>
        have d1 : decide ((t.size : Int) ≤ 32) = false := decide_eq_false (by omega)
        have HF := hide (show res = false by rw [HR.out, decide_eq_false h1]; rfl)
        clear h1
        go_wp2_with fail
        go_ret
        exact ⟨by rw [HF.out]; rfl, HBC.out⟩
      have d1 : decide ((t.size : Int) ≤ 32) = true := decide_eq_true (by omega)
      have H1 := hide h1
      clear h1
      by_cases h2 : sp.size ≤ 32
      case neg =>
        have d2 : decide ((sp.size : Int) ≤ 32) = false := decide_eq_false (by omega)
        have HF := hide (show res = false by rw [HR.out, decide_eq_false h2]; simp)
        clear h2
        go_wp2_with fail
        go_ret
        exact ⟨by rw [HF.out]; rfl, HBC.out⟩
      have d2 : decide ((sp.size : Int) ≤ 32) = true := decide_eq_true (by omega)
      have HF := hide (show res = namedB nm (!decide (kd = 3)) by rw [HR.out, decide_eq_true H1.out, decide_eq_true h2]; simp)
      clear h2
      obtain ⟨e3, he3⟩ : ∃ e3, (!decide (kd = 3)) = e3 := ⟨_, rfl⟩
      rw [he3] at HF
      have d3 : (kd != 3) = e3 := by rw [← he3, bne_eq_not_decide]
      have HN := hide (refName_any nm e3 wc HX.out.n)
      obtain ⟨nb, hnb⟩ : ∃ nb, namedB nm e3 = nb := ⟨_, rfl⟩
      rw [hnb] at HN HF
      clear he3 hnb
      go_wp2_with fail
      refine HN.out.mono ?_
      rintro e w9 ⟨rfl, rfl⟩
      cases nb
      · go_wp2_with fail
        go_ret
        exact ⟨by rw [HF.out]; rfl, HBC.out⟩
      · go_wp2_with fail
        go_ret
        exact ⟨by rw [HF.out]; rfl, HBC.out⟩
end Go.Proofs.Ytalicfpcmcbdbaa

set_option linter.unusedVariables false
set_option linter.unusedSimpArgs false
set_option linter.unnecessarySimpa false
set_option linter.deprecated false
namespace Go.Proofs.Ytalicfpcmcbdbaa
open Go.RowKit

set_option maxHeartbeats 800000 in
set_option maxRecDepth 100000 in
theorem refProd_any (p : Pd) (ap : Option Addr) (cp : Nat) (w : World) (hp : p.ok) (hr : Row SyAt 8 p.syms ap w) : Calls Try.prog 90 #[.agg #[.bool p.lex, .string p.sort, .string p.cons, .bool p.bracket, .slice ap p.syms.length cp]] w fun e w' => e = .returned (.bool (rightPdB p)) ∧ Below w.heap.size w w' := by
  have HP := hide hp
  have hpl := hr.1
  clear hp
  have HB0 := hide ((Below.refl w.heap.size w).alloc (Nat.le_refl _) (.cells #[.bool p.lex, .string p.sort, .string p.cons, .bool p.bracket, .slice ap p.syms.length cp] 38))
  have HX0 := hide (Blk.new w #[.bool p.lex, .string p.sort, .string p.cons, .bool p.bracket, .slice ap p.syms.length cp] 38)
  have HR := hide (hr.below SyAt.stable HB0.out)
  obtain ⟨res, hres⟩ : ∃ r, rightPdB p = r := ⟨_, rfl⟩
  rw [hres]
  have HRES := hide hres
  obtain ⟨lx, so, cn, br, sy⟩ := p
  have hpl : sy.length ≤ 140737488351232 := hpl
  clear hr hres
  go_enter Try.func90, Try.ntmps90
  go_upto_region 1 with fail
  obtain ⟨kx, hkx⟩ : ∃ kx, w.heap.size = kx := ⟨_, rfl⟩
  obtain ⟨w1, h1⟩ : ∃ w1, w.alloc (.cells #[.bool lx, .string so, .string cn, .bool br, .slice ap sy.length cp] 38) = w1 := ⟨_, rfl⟩
  replace HB0 := hide (show Below w.heap.size w w1 by rw [← h1]; exact HB0.out)
  replace HX0 := hide (show Blk w1 kx #[.bool lx, .string so, .string cn, .bool br, .slice ap sy.length cp] 38 by rw [← h1, ← hkx]; exact HX0.out)
  have HR1 := hide (show Row SyAt 8 sy ap w1 by rw [← h1]; exact HR.out)
  rw [h1, hkx]
  clear h1 hkx
  clear HR
  have x0 := HX0.out.cell 0
  have x1 := HX0.out.cell 1
  have x2 := HX0.out.cell 2
  have x3 := HX0.out.cell 3
  have x4 := HX0.out.cell 4
  have xl := HX0.out.lt
  have HR := hide (show res = (namedB so false && namedB cn true && decide (1 ≤ sy.length) && decide (sy.length ≤ 12) && !(lx && br || !lx && (br != emp cn)) && sy.all rightSyB) by rw [← HRES.out]; rfl)
  have HN1 := hide (refName_any so false w1 HP.out.s)
  have HN2 := hide (refName_any cn true w1 HP.out.c)
  obtain ⟨b1, hb1⟩ : ∃ b1, namedB so false = b1 := ⟨_, rfl⟩
  obtain ⟨b2, hb2⟩ : ∃ b2, namedB cn true = b2 := ⟨_, rfl⟩
  rw [hb1] at HN1 HR
  rw [hb2] at HN2 HR
  clear hb1 hb2
  go_wp2_with fail
  refine HN1.out.mono ?_
  rintro e w' ⟨rfl, rfl⟩
  cases b1 with
  | false =>
    have HF := hide (show res = false by rw [HR.out]; rfl)
    go_wp2_with fail
    go_ret
    exact ⟨by rw [HF.out]; rfl, HB0.out⟩
  | true =>
    go_wp2_with fail
    refine HN2.out.mono ?_
    rintro e w' ⟨rfl, rfl⟩
    cases b2 with
    | false =>
      have HF := hide (show res = false by rw [HR.out]; rfl)
      go_wp2_with fail
      go_ret
      exact ⟨by rw [HF.out]; rfl, HB0.out⟩
    | true =>
      by_cases h1 : 1 ≤ sy.length
      case neg =>
        have d1 : decide ((sy.length : Int) < 1) = true := decide_eq_true (by omega)
        have HF := hide (show res = false by rw [HR.out, decide_eq_false h1]; rfl)
        clear h1
        go_wp2_with fail
        go_ret
        exact ⟨by rw [HF.out]; rfl, HB0.out⟩
      have d1 : decide ((sy.length : Int) < 1) = false := decide_eq_false (by omega)
      replace HR := hide (show res = (decide (sy.length ≤ 12) && !(lx && br || !lx && (br != emp cn)) && sy.all rightSyB) by rw [HR.out, decide_eq_true h1]; rfl)
      clear h1
      by_cases h2 : sy.length ≤ 12
      case neg =>
        have d2 : decide ((sy.length : Int) > 12) = true := decide_eq_true (by omega)
        have HF := hide (show res = false by rw [HR.out, decide_eq_false h2]; rfl)
        clear h2
        go_wp2_with fail
        go_ret
        exact ⟨by rw [HF.out]; rfl, HB0.out⟩
      have d2 : decide ((sy.length : Int) > 12) = false := decide_eq_false (by omega)
      obtain ⟨bad, hbad⟩ : ∃ bad, (lx && br || !lx && (br != emp cn)) = bad := ⟨_, rfl⟩
      have HBD := hide hbad
      replace HR := hide (show res = (!bad && sy.all rightSyB) by rw [HR.out, decide_eq_true h2, hbad]; rfl)
      clear h2 hbad
      go_upto_region 3 with fail
      clear d1 d2
      go_cut [55] from 26 to 56 (fun v55 wc => v55 = .bool bad ∧ w1 = wc)
      case first =>
        obtain ⟨lz, hlz⟩ : ∃ lz, lx = lz := ⟨_, rfl⟩
        obtain ⟨bz, hbz⟩ : ∃ bz, br = bz := ⟨_, rfl⟩
        rw [hlz] at x0
        rw [hbz] at x3
        have HLZ := hide hlz
        have HBZ := hide hbz
        clear hlz hbz
        cases lz with
        | true =>
          cases bz with
          | true =>
            rcases emp_or cn with ⟨bn, zn, yn, vn, xn⟩ | ⟨bn, zn, yn, vn, xn⟩
            · have hne : (cn.toList == []) = true := by rw [xn]; rfl
              have hne2 : (!cn.toList == []) = false := by rw [hne]; rfl
              obtain rfl : true = bad := by rw [← HBD.out, HLZ.out, HBZ.out, zn.out]; rfl
              go_wp2_with fail
              go_meet
              exact ⟨rfl, rfl⟩
            · have hne : (cn.toList == []) = false := beq_eq_false_iff_ne.2 xn
              have hne2 : (!cn.toList == []) = true := by rw [hne]; rfl
              obtain rfl : true = bad := by rw [← HBD.out, HLZ.out, HBZ.out, zn.out]; rfl
              go_wp2_with fail
              go_meet
              exact ⟨rfl, rfl⟩
          | false =>
            rcases emp_or cn with ⟨bn, zn, yn, vn, xn⟩ | ⟨bn, zn, yn, vn, xn⟩
            · have hne : (cn.toList == []) = true := by rw [xn]; rfl
              have hne2 : (!cn.toList == []) = false := by rw [hne]; rfl
              obtain rfl : false = bad := by rw [← HBD.out, HLZ.out, HBZ.out, zn.out]; rfl
              go_wp2_with fail
              go_meet
              exact ⟨rfl, rfl⟩
            · have hne : (cn.toList == []) = false := beq_eq_false_iff_ne.2 xn
              have hne2 : (!cn.toList == []) = true := by rw [hne]; rfl
              obtain rfl : false = bad := by rw [← HBD.out, HLZ.out, HBZ.out, zn.out]; rfl
              go_wp2_with fail
              go_meet
              exact ⟨rfl, rfl⟩
        | false =>
          cases bz with
          | true =>
            rcases emp_or cn with ⟨bn, zn, yn, vn, xn⟩ | ⟨bn, zn, yn, vn, xn⟩
            · have hne : (cn.toList == []) = true := by rw [xn]; rfl
              have hne2 : (!cn.toList == []) = false := by rw [hne]; rfl
              obtain rfl : false = bad := by rw [← HBD.out, HLZ.out, HBZ.out, zn.out]; rfl
              go_wp2_with fail
              go_meet
              exact ⟨rfl, rfl⟩
            · have hne : (cn.toList == []) = false := beq_eq_false_iff_ne.2 xn
              have hne2 : (!cn.toList == []) = true := by rw [hne]; rfl
              obtain rfl : true = bad := by rw [← HBD.out, HLZ.out, HBZ.out, zn.out]; rfl
              go_wp2_with fail
              go_meet
              exact ⟨rfl, rfl⟩
          | false =>
            rcases emp_or cn with ⟨bn, zn, yn, vn, xn⟩ | ⟨bn, zn, yn, vn, xn⟩
            · have hne : (cn.toList == []) = true := by rw [xn]; rfl
              have hne2 : (!cn.toList == []) = false := by rw [hne]; rfl
              obtain rfl : true = bad := by rw [← HBD.out, HLZ.out, HBZ.out, zn.out]; rfl
              go_wp2_with fail
              go_meet
              exact ⟨rfl, rfl⟩
            · have hne : (cn.toList == []) = false := beq_eq_false_iff_ne.2 xn
              have hne2 : (!cn.toList == []) = true := by rw [hne]; rfl
              obtain rfl : false = bad := by rw [← HBD.out, HLZ.out, HBZ.out, zn.out]; rfl
              go_wp2_with fail
              go_meet
              exact ⟨rfl, rfl⟩
      case rest =>
        obtain ⟨rfl, rfl⟩ := hcut
        cases bad with
        | true =>
          have HF := hide (show res = false by rw [HR.out]; rfl)
          go_wp2_with fail
          go_ret
          exact ⟨by rw [HF.out]; rfl, HB0.out⟩
        | false =>
          have HR2 := hide (show res = sy.all rightSyB by rw [HR.out]; rfl)
          clear HR
          go_wp2_with fail
          go_loopg [3] sy.length (fun u v3 wr => ∃ k : Nat, Hid (u = sy.length - k) ∧ v3 = .int .i64 (k : Int) ∧ Hid (k ≤ sy.length ∧ Below w1.heap.size w1 wr ∧ ∀ j (h : j < sy.length), j < k → rightSyB sy[j] = true))
          case atStart => exact ⟨0, hide rfl, rfl, hide ⟨Nat.zero_le _, Below.refl _ _, none_to (f := rightSyB) rfl⟩⟩
          case round =>
            obtain ⟨k, hu, rfl, hh⟩ := hrel
            have hkl := hh.out.1
            have HBR := hide hh.out.2.1
            clear x0 x1 x2 x3 x4 xl
            have x4 := (HX0.out.below HBR.out).cell 4
            have xl := (HX0.out.below HBR.out).lt
            by_cases hlt : k < sy.length
            · have hlti : (k : Int) < (sy.length : Int) := by omega
              obtain ⟨b, o, rfl, hb, hat⟩ := (HR1.out.below SyAt.stable HBR.out).get hlt
              have hx := hat k hlt
              have HALL := hide (fun (h : rightSyB sy[k] = true) => all_next (f := rightSyB) (k := k) (x := sy[k]) hh.out.2.2 (fun _ => rfl) h)
              have HNO := hide (fun (h : rightSyB sy[k] = false) => (show res = false by rw [HR2.out, all_not rightSyB sy k hlt h]))
              generalize sy[k] = x at hx HALL HNO
              clear hat hh
              obtain ⟨kd, t, st, nm, sp⟩ := x
              obtain ⟨e0, e1, e2, e3, e4, e5, e6, e7⟩ := hx.cells
              have HC := hide (refSym_any ⟨kd, t, st, nm, sp⟩ hx.1 wr)
              clear hx
              cases hq : rightSyB ⟨kd, t, st, nm, sp⟩ with
              | true =>
                have HA2 := hide (HALL.out hq)
                rw [hq] at HC
                clear hq
                go_wp2_with fail
                refine HC.out.mono ?_
                rintro e w7 ⟨rfl, hb7⟩
                have HB7 := hide (below_next HBR.out hb7)
                clear hb7
                go_wp2_with fail
                go_roundg (sy.length - (k + 1))
                case measure => rw [hu.out]; omega
                case rel => exact ⟨k + 1, hide rfl, by go_num, hide ⟨hlt, HB7.out, HA2.out⟩⟩
              | false =>
                have HF := hide (HNO.out hq)
                rw [hq] at HC
                clear hq
                go_wp2_with fail
                refine HC.out.mono ?_
                rintro e w7 ⟨rfl, hb7⟩
                have HB7 := hide (below_next HBR.out hb7)
                clear hb7
                go_wp2_with fail
                go_ret
                exact ⟨by rw [HF.out]; rfl, below_next HB0.out HB7.out⟩
            · have hlti : ¬ (k : Int) < (sy.length : Int) := by omega
              have HF := hide (show res = true by rw [HR2.out]; exact all_to rightSyB sy (fun j h => hh.out.2.2 j h (by omega)))
              go_wp2_with fail
              go_ret
              exact ⟨by rw [HF.out]; rfl, below_next HB0.out HBR.out⟩
set_option maxHeartbeats 800000 in
set_option maxRecDepth 100000 in
theorem refChain_any (l : List Gp) (a : Option Addr) (c : Nat) (w : World) (hr : Row GpAt 2 l a w) : Calls Try.prog 91 #[.slice a l.length c] w fun e w' => e = .returned (.bool (rightChB l)) ∧ Below w.heap.size w w' := by
  have HR := hide hr
  have hln := hr.1
  obtain ⟨res, hres⟩ : ∃ r, rightChB l = r := ⟨_, rfl⟩
  rw [hres]
  have HRES := hide (show res = (l.all rightGpB && decide (1 ≤ l.length) && decide (l.length ≤ 16)) by rw [← hres]; rfl)
  clear hr hres
  go_enter Try.func91, Try.ntmps91
  by_cases h1 : 1 ≤ l.length
  case neg =>
    have d1 : decide ((l.length : Int) < 1) = true := decide_eq_true (by omega)
    have HF := hide (show res = false by rw [HRES.out, decide_eq_false h1]; simp)
    clear h1
    go_wp2_with fail
    go_ret
    exact ⟨by rw [HF.out]; rfl, Below.refl _ _⟩
  have d1 : decide ((l.length : Int) < 1) = false := decide_eq_false (by omega)
  by_cases h2 : l.length ≤ 16
  case neg =>
    have d2 : decide ((l.length : Int) > 16) = true := decide_eq_true (by omega)
    have HF := hide (show res = false by rw [HRES.out, decide_eq_false h2]; simp)
    clear h1 h2
    go_wp2_with fail
    go_ret
    exact ⟨by rw [HF.out]; rfl, Below.refl _ _⟩
  have d2 : decide ((l.length : Int) > 16) = false := decide_eq_false (by omega)
  have HR2 := hide (show res = l.all rightGpB by rw [HRES.out, decide_eq_true h1, decide_eq_true h2]; simp)
  clear h1 h2
  go_wp2_with fail
  clear d1 d2
  go_loopg [3] l.length (fun u v3 wr => ∃ k : Nat, Hid (u = l.length - k) ∧ v3 = .int .i64 (k : Int) ∧ Hid (k ≤ l.length ∧ Below w.heap.size w wr ∧ ∀ j (h : j < l.length), j < k → rightGpB l[j] = true))
  case atStart => exact ⟨0, hide rfl, rfl, hide ⟨Nat.zero_le _, Below.refl _ _, none_to (f := rightGpB) rfl⟩⟩
  case round =>
    obtain ⟨k, hu, rfl, hh⟩ := hrel
    have hkl := hh.out.1
    have HBR := hide hh.out.2.1
    by_cases hlt : k < l.length
    · have hlti : (k : Int) < (l.length : Int) := by omega
      obtain ⟨b, o, rfl, hb, hat⟩ := (HR.out.below GpAt.stable HBR.out).get hlt
      have hx := hat k hlt
      have HALL := hide (fun (h : rightGpB l[k] = true) => all_next (f := rightGpB) (k := k) (x := l[k]) hh.out.2.2 (fun _ => rfl) h)
      have HNO := hide (fun (h : rightGpB l[k] = false) => (show res = false by rw [HR2.out, all_not rightGpB l k hlt h]))
      generalize l[k] = x at hx HALL HNO
      clear hat hh
      obtain ⟨as0, co⟩ := x
      obtain ⟨ag, cg, ⟨e0, e1⟩, hrg⟩ := hx.cells
      have HRG := hide hrg
      have hcl := hrg.1
      clear hx hrg
      go_upto_region 7 with fail
      obtain ⟨kg, hkg⟩ : ∃ kg, wr.heap.size = kg := ⟨_, rfl⟩
      obtain ⟨w6, h6⟩ : ∃ w6, wr.alloc (.cells #[.int .i64 as0, .slice ag co.length cg] 68) = w6 := ⟨_, rfl⟩
      have hb6 := hide (show Below wr.heap.size wr w6 by rw [← h6]; exact NB.alloc (Below.refl _ _) _)
      have HG6 := hide (show Blk w6 kg #[.int .i64 as0, .slice ag co.length cg] 68 by rw [← h6, ← hkg]; exact Blk.new wr _ _)
      have HB6 := hide (below_next HBR.out hb6.out)
      have HRG6 := hide (HRG.out.below StrAt.stable hb6.out)
      rw [h6, hkg]
      clear h6 hkg e0 e1 hb
      have g0 := HG6.out.cell 0
      have g1 := HG6.out.cell 1
      have gl := HG6.out.lt
      by_cases q1 : 0 ≤ as0
      case neg =>
        have d1 : decide (as0 < 0) = true := decide_eq_true (by omega)
        have HF := hide (HNO.out (by unfold rightGpB; rw [decide_eq_false q1]; rfl))
        clear q1
        go_wp2_with fail
        go_ret
        exact ⟨by rw [HF.out]; rfl, HB6.out⟩
      have d1 : decide (as0 < 0) = false := decide_eq_false (by omega)
      have Q1 := hide q1
      clear q1
      by_cases q2 : as0 ≤ 3
      case neg =>
        have d2 : decide (as0 > 3) = true := decide_eq_true (by omega)
        have HF := hide (HNO.out (by unfold rightGpB; rw [show decide ((Gp.mk as0 co).assoc ≤ 3) = false from decide_eq_false q2]; simp))
        clear q2
        go_wp2_with fail
        go_ret
        exact ⟨by rw [HF.out]; rfl, HB6.out⟩
      have d2 : decide (as0 > 3) = false := decide_eq_false (by omega)
      have Q2 := hide q2
      clear q2
      by_cases q3 : 1 ≤ co.length
      case neg =>
        have d3 : decide ((co.length : Int) < 1) = true := decide_eq_true (by omega)
        have HF := hide (HNO.out (by unfold rightGpB; rw [show decide (1 ≤ (Gp.mk as0 co).cons.length) = false from decide_eq_false q3]; simp))
        clear q3
        go_wp2_with fail
        go_ret
        exact ⟨by rw [HF.out]; rfl, HB6.out⟩
      have d3 : decide ((co.length : Int) < 1) = false := decide_eq_false (by omega)
      have Q3 := hide q3
      clear q3
      by_cases q4 : co.length ≤ 16
      case neg =>
        have d4 : decide ((co.length : Int) > 16) = true := decide_eq_true (by omega)
        have HF := hide (HNO.out (by unfold rightGpB; rw [show decide ((Gp.mk as0 co).cons.length ≤ 16) = false from decide_eq_false q4]; simp))
        clear q4
        go_wp2_with fail
        go_ret
        exact ⟨by rw [HF.out]; rfl, HB6.out⟩
      have d4 : decide ((co.length : Int) > 16) = false := decide_eq_false (by omega)
      have HEQ := hide (show rightGpB ⟨as0, co⟩ = co.all (fun s => namedB s false) by unfold rightGpB; rw [show decide (0 ≤ (Gp.mk as0 co).assoc) = true from decide_eq_true Q1.out, show decide ((Gp.mk as0 co).assoc ≤ 3) = true from decide_eq_true Q2.out, show decide (1 ≤ (Gp.mk as0 co).cons.length) = true from decide_eq_true Q3.out, show decide ((Gp.mk as0 co).cons.length ≤ 16) = true from decide_eq_true q4]; rfl)
      clear q4
      go_wp2_with fail
      clear d1 d2 d3 d4 g0
      go_loopg [5] co.length (fun u v5 wq => ∃ j : Nat, Hid (u = co.length - j) ∧ v5 = .int .i64 (j : Int) ∧ Hid (j ≤ co.length ∧ w6 = wq ∧ ∀ i (h : i < co.length), i < j → namedB co[i] false = true))
      case atStart => exact ⟨0, hide rfl, rfl, hide ⟨Nat.zero_le _, rfl, fun _ _ h => absurd h (Nat.not_lt_zero _)⟩⟩
      case round =>
        obtain ⟨j, hv, rfl, hq⟩ := hrel
        have hjl := hq.out.1
        obtain rfl := hq.out.2.1
        by_cases hltj : j < co.length
        · have hltji : (j : Int) < (co.length : Int) := by omega
          obtain ⟨b2, o2, rfl, hb2, hat2⟩ := HRG6.out.get hltj
          have hx2 := hat2 j hltj
          rw [Nat.mul_one] at hx2
          have HA := hide (fun (h : namedB co[j] false = true) => (show ∀ i (h : i < co.length), i < j + 1 → namedB co[i] false = true from fun i hi hij => by
            by_cases e : i = j
            · subst e; exact h
            · exact hq.out.2.2 i hi (by omega)))
          have HN := hide (fun (h : namedB co[j] false = false) => HNO.out (by rw [HEQ.out]; exact all_not (fun s => namedB s false) co j hltj h))
          generalize co[j] = n at hx2 HA HN
          have f0 := hx2.2
          have HC := hide (refName_any n false w6 hx2.1)
          clear hat2 hx2 hq
          cases hn : namedB n false with
          | true =>
            have HA2 := hide (HA.out hn)
            rw [hn] at HC
            clear hn
            go_wp2_with fail
            refine HC.out.mono ?_
            rintro e w' ⟨rfl, rfl⟩
            go_wp2_with fail
            go_roundg (co.length - (j + 1))
            case measure => rw [hv.out]; omega
            case rel => exact ⟨j + 1, hide rfl, by go_num, hide ⟨hltj, rfl, HA2.out⟩⟩
          | false =>
            have HF := hide (HN.out hn)
            rw [hn] at HC
            clear hn
            go_wp2_with fail
            refine HC.out.mono ?_
            rintro e w' ⟨rfl, rfl⟩
            go_wp2_with fail
            go_ret
            exact ⟨by rw [HF.out]; rfl, HB6.out⟩
        · have hltji : ¬ (j : Int) < (co.length : Int) := by omega
          have HA2 := hide (HALL.out (by rw [HEQ.out]; exact all_to (fun s => namedB s false) co (fun i h => hq.out.2.2 i h (by omega))))
          clear hq
          go_wp2_with fail
          go_roundg (l.length - (k + 1))
          case measure => rw [hu.out]; omega
          case rel => exact ⟨k + 1, hide rfl, by go_num, hide ⟨hlt, HB6.out, HA2.out⟩⟩
    · have hlti : ¬ (k : Int) < (l.length : Int) := by omega
      have HF := hide (show res = true by rw [HR2.out]; exact all_to rightGpB l (fun j h => hh.out.2.2 j h (by omega)))
      go_wp2_with fail
      go_ret
      exact ⟨by rw [HF.out]; rfl, HBR.out⟩
end Go.Proofs.Ytalicfpcmcbdbaa
