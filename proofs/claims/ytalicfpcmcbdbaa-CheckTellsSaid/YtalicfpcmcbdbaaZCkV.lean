/- The reference: consTwice. The reference: line. -/
import Derived.Test.YtalicfpcmcbdbaaZCkG
import Derived.Test.YtalicfpcmcbdbaaZRefL
import Derived.Test.YtalicfpcmcbdbaaZCpE
import Derived.BigQuiet
import Derived.Test.YtalicfpcmcbdbaaZCkU
import Derived.Test.YtalicfpcmcbdbaaZCkJ
import Derived.Test.YtalicfpcmcbdbaaZCkK
import Derived.Test.YtalicfpcmcbdbaaZRefS
import Derived.Test.YtalicfpcmcbdbaaZRgL
import Derived.Test.YtalicfpcmcbdbaaZNames
set_option linter.unusedVariables false
set_option linter.unusedSimpArgs false
set_option linter.unnecessarySimpa false
set_option linter.deprecated false
namespace Go.Proofs.Ytalicfpcmcbdbaa
open Go.RowKit

theorem consHit_iff {d : Df} {k : Nat} {p : Pd} (hp : p ∈ d.prods) : consHit d k p = true ↔ p.lex = false ∧ emp p.cons = false ∧ consIdx d.prods p.cons < (k : Int) := by
  unfold consHit
  simp only [Bool.and_eq_true, decide_eq_true_eq, Bool.not_eq_true']
  constructor
  · rintro ⟨⟨h1, h2⟩, h3⟩
    refine ⟨h1, ?_, h3⟩
    rw [Bool.eq_false_iff]
    intro h
    unfold consIdx at h2
    rw [if_pos h] at h2
    omega
  · rintro ⟨h1, h2, h3⟩
    refine ⟨⟨h1, ?_⟩, h3⟩
    rcases consIdx_cases d.prods p.cons with ⟨e1, e2⟩ | ⟨_, k0, _, e1, _⟩
    · exfalso
      rcases e2 with e2 | e2
      · rw [h2] at e2; cases e2
      · have := e2 p hp
        rw [isCons_iff.2 ⟨h1, rfl⟩] at this
        cases this
    · rw [e1]; omega
set_option maxHeartbeats 800000 in
set_option maxRecDepth 100000 in
theorem consTwice_any (d : Df) (a2 : Option Addr) (c2 : Nat) (a3 : Option Addr) (c3 : Nat) (a4 : Option Addr) (c4 : Nat) (a5 : Option Addr) (c5 : Nat) (a6 : Option Addr) (c6 : Nat) (w : World) (hd : RD d ⟨a2, c2, a3, c3, a4, c4, a5, c5, a6, c6⟩ w)  : Calls Try.prog 79 #[.agg #[.string d.start, .string d.layout, .slice a2 d.prods.length c2, .slice a3 d.chains.length c3, .slice a4 d.follows.length c4, .slice a5 d.rejects.length c5, .slice a6 d.boxes.length c6]] w fun e w' => e = .returned (toldV (consLk d)) ∧ Below w.heap.size w w' := by
  have hpl := hd.p.1
  have HD := hide hd
  obtain ⟨res, hres⟩ : ∃ r, toldV (consLk d) = r := ⟨_, rfl⟩
  rw [hres]
  have HRES := hide hres
  clear hres hd
  go_enter Try.func79, Try.ntmps79
  go_upto_region 1 with fail
  obtain ⟨kx, hkx⟩ : ∃ kx, w.heap.size = kx := ⟨_, rfl⟩
  obtain ⟨w1, h1⟩ : ∃ w1, w.alloc (.cells #[.string d.start, .string d.layout, .slice a2 d.prods.length c2, .slice a3 d.chains.length c3, .slice a4 d.follows.length c4, .slice a5 d.rejects.length c5, .slice a6 d.boxes.length c6] 28) = w1 := ⟨_, rfl⟩
  have HB0 := hide (show Below w.heap.size w w1 by rw [← h1]; exact NB.alloc (Below.refl _ _) _)
  have HX0 := hide (show Blk w1 kx #[.string d.start, .string d.layout, .slice a2 d.prods.length c2, .slice a3 d.chains.length c3, .slice a4 d.follows.length c4, .slice a5 d.rejects.length c5, .slice a6 d.boxes.length c6] 28 by rw [← h1, ← hkx]; exact Blk.new w _ _)
  replace HD := hide (HD.out.below HB0.out)
  rw [h1, hkx]
  clear h1 hkx
  go_wp2_with fail
  go_loopg [4] d.prods.length (fun u v4 wr => ∃ k : Nat, Hid (u = d.prods.length - k) ∧ v4 = .int .i64 (k : Int) ∧ Hid (k ≤ d.prods.length ∧ Below w1.heap.size w1 wr ∧ ∀ j (h : j < d.prods.length), j < k → consHit d (0 + j) d.prods[j] = false))
  case atStart => exact ⟨0, hide rfl, rfl, hide ⟨Nat.zero_le _, Below.refl _ _, fun _ _ h => absurd h (Nat.not_lt_zero _)⟩⟩
  case round =>
    obtain ⟨k, hu, rfl, hh⟩ := hrel
    have hkl := hh.out.1
    have HXR := hide (HX0.out.below hh.out.2.1)
    have HBR := hide hh.out.2.1
    have x2 := HXR.out.cell 2
    have xl := HXR.out.lt
    by_cases hlt : k < d.prods.length
    · have hlti : (k : Int) < (d.prods.length : Int) := by omega
      obtain ⟨b, o, rfl, hb, hat⟩ := (HD.out.below hh.out.2.1).p.get hlt
      have hx := hat k hlt
      have HPM := hide (List.getElem_mem hlt)
      have HNX := hide (fun (hf : (d.prods[k]).lex = false → emp (d.prods[k]).cons = false → ¬ consIdx d.prods (d.prods[k]).cons < (k : Int)) => (show ∀ j (h : j < d.prods.length), j < k + 1 → consHit d (0 + j) d.prods[j] = false from fun j h hj => by
        by_cases e : j = k
        · subst e
          rw [Nat.zero_add, Bool.eq_false_iff]
          intro ht
          obtain ⟨h1, h2, h3⟩ := (consHit_iff HPM.out).1 ht
          exact hf h1 h2 h3
        · exact hh.out.2.2 j h (by omega)))
      have HHI := hide (fun (h1 : (d.prods[k]).lex = false) (h2 : emp (d.prods[k]).cons = false) (h3 : consIdx d.prods (d.prods[k]).cons < (k : Int)) => (show res = toldV (45, (d.prods[k]).cons) by
        rw [← HRES.out]
        unfold consLk
        rw [firstI_hit 45 _ _ d.prods 0 k hlt hh.out.2.2 (by rw [Nat.zero_add]; exact (consHit_iff HPM.out).2 ⟨h1, h2, h3⟩)]))
      clear HPM
      generalize d.prods[k] = x at hx HNX HHI
      clear hat
      obtain ⟨plx, pso, pcn, pbr, psy⟩ := x
      obtain ⟨ap, cp, ⟨e0, e1, e2, e3, e4⟩, hrow⟩ := hx.cells
      clear hx hh hrow
      go_upto_region 5 with fail
      obtain ⟨kp, hkp⟩ : ∃ kp, wr.heap.size = kp := ⟨_, rfl⟩
      obtain ⟨w6, h6⟩ : ∃ w6, wr.alloc (.cells #[.bool plx, .string pso, .string pcn, .bool pbr, .slice ap psy.length cp] 38) = w6 := ⟨_, rfl⟩
      have hb6 := hide (show Below wr.heap.size wr w6 by rw [← h6]; exact NB.alloc (Below.refl _ _) _)
      have HP6 := hide (show Blk w6 kp #[.bool plx, .string pso, .string pcn, .bool pbr, .slice ap psy.length cp] 38 by rw [← h6, ← hkp]; exact Blk.new wr _ _)
      have HB6 := hide (below_next HBR.out hb6.out)
      have HX6 := hide (HXR.out.below hb6.out)
      rw [h6, hkp]
      clear h6 hkp e0 e1 e2 e3 e4 hb x2 xl
      have HBN := hide HB6.out
      have x0 := HX6.out.cell 0
      have x1 := HX6.out.cell 1
      have x2 := HX6.out.cell 2
      have x3 := HX6.out.cell 3
      have x4 := HX6.out.cell 4
      have x5 := HX6.out.cell 5
      have x6 := HX6.out.cell 6
      have xl := HX6.out.lt
      have p0 := HP6.out.cell 0
      have p1 := HP6.out.cell 1
      have p2 := HP6.out.cell 2
      have p3 := HP6.out.cell 3
      have p4 := HP6.out.cell 4
      have pl := HP6.out.lt
      cases plx with
      | true =>
        have HN := hide (HNX.out (fun h => by cases h))
        go_wp2_with fail
        go_roundg (d.prods.length - (k + 1))
        case measure => rw [hu.out]; omega
        case rel => exact ⟨k + 1, hide rfl, by go_num, hide ⟨hlt, HBN.out, HN.out⟩⟩
      | false =>
        rcases emp_or pcn with ⟨bn, zn, yn, vn, xn⟩ | ⟨bn, zn, yn, vn, xn⟩
        · have c1a : (pcn.toList == []) = true := by rw [xn]; rfl
          have c1b : (!pcn.toList == []) = false := by rw [c1a]; rfl
          have HN := hide (HNX.out (fun _ h => by rw [zn.out] at h; cases h))
          go_wp2_with fail
          go_roundg (d.prods.length - (k + 1))
          case measure => rw [hu.out]; omega
          case rel => exact ⟨k + 1, hide rfl, by go_num, hide ⟨hlt, HBN.out, HN.out⟩⟩
        · have c1a : (pcn.toList == []) = false := beq_eq_false_iff_ne.2 xn
          have c1b : (!pcn.toList == []) = true := by rw [c1a]; rfl
          have HC := hide (rCons_any d (some ⟨b, o, none⟩) c2 a3 c3 a4 c4 a5 c5 a6 c6 pcn w6 (HD.out.below HB6.out))
          obtain ⟨ci, hci⟩ : ∃ ci, consIdx d.prods pcn = ci := ⟨_, rfl⟩
          rw [hci] at HC
          go_wp2_with fail
          refine HC.out.mono ?_
          rintro e w7 ⟨rfl, hb7⟩
          have HBN := hide (below_next HB6.out hb7)
          replace p2 := (HP6.out.below hb7).cell 2
          replace pl := (HP6.out.below hb7).lt
          clear x0 x1 x2 x3 x4 x5 x6 xl p0 p1 p3 p4
          by_cases h1 : ci < (k : Int)
          · have d1 : decide (ci < (k : Int)) = true := decide_eq_true h1
            have HF := hide (HHI.out (by first | rfl | trivial) zn.out (by rw [hci]; first | exact h1 | omega))
            clear h1 hci
            go_wp2_with fail
            go_ret2
            exact ⟨by rw [HF.out]; rfl, below_next HB0.out HBN.out⟩
          · have d1 : decide (ci < (k : Int)) = false := decide_eq_false h1
            have HN := hide (HNX.out (fun _ _ => by rw [hci]; first | exact h1 | omega))
            clear h1 hci
            go_wp2_with fail
            go_roundg (d.prods.length - (k + 1))
            case measure => rw [hu.out]; omega
            case rel => exact ⟨k + 1, hide rfl, by go_num, hide ⟨hlt, HBN.out, HN.out⟩⟩
    · have hlti : ¬ (k : Int) < (d.prods.length : Int) := by omega
      have HF := hide (show res = toldV okL by
        rw [← HRES.out]
        unfold consLk
        rw [firstI_miss 45 _ _ d.prods 0 (fun j h => hh.out.2.2 j h (by omega))])
      have HBN := hide hh.out.2.1
      go_wp2_with fail
      go_ret2
      exact ⟨by rw [HF.out]; rfl, below_next HB0.out HBN.out⟩
end Go.Proofs.Ytalicfpcmcbdbaa

set_option linter.unusedVariables false
set_option linter.unusedSimpArgs false
set_option linter.unnecessarySimpa false
set_option linter.deprecated false
namespace Go.Proofs.Ytalicfpcmcbdbaa
open Go.RowKit

set_option maxHeartbeats 1600000 in
set_option maxRecDepth 100000 in
theorem line1_any (d : Df) (a2 : Option Addr) (c2 : Nat) (a3 : Option Addr) (c3 : Nat) (a4 : Option Addr) (c4 : Nat) (a5 : Option Addr) (c5 : Nat) (a6 : Option Addr) (c6 : Nat) (w : World) (hd : RD d ⟨a2, c2, a3, c3, a4, c4, a5, c5, a6, c6⟩ w) (hln : d.prods.length ≤ 100000) (hall : (d.prods.flatMap bareL).length ≤ 99999) (hsl : ∀ p ∈ d.prods, p.syms.length ≤ 10000) : Calls Try.prog 50 #[.agg #[.string d.start, .string d.layout, .slice a2 d.prods.length c2, .slice a3 d.chains.length c3, .slice a4 d.follows.length c4, .slice a5 d.rejects.length c5, .slice a6 d.boxes.length c6], .int .i64 1] w fun e w' => (∃ s, e = .returned (.tuple #[.string s, .bool (!decide ((formL d).1 = 0))]) ∧ ((formL d).1 ≠ 0 → s = (formL d).2)) ∧ Below w.heap.size w w' := by
  have HLN := hide hln
  have HALL := hide hall
  have HSL := hide hsl
  clear hln hall hsl
  have HD := hide hd
  obtain ⟨res, hres⟩ : ∃ r, formL d = r := ⟨_, rfl⟩
  rw [hres]
  have HRES := hide hres
  clear hres hd
  go_enter Try.func50, Try.ntmps50
  go_upto_region 1 with fail
  obtain ⟨kx, hkx⟩ : ∃ kx, w.heap.size = kx := ⟨_, rfl⟩
  obtain ⟨w1, h1⟩ : ∃ w1, w.alloc (.cells #[.string d.start, .string d.layout, .slice a2 d.prods.length c2, .slice a3 d.chains.length c3, .slice a4 d.follows.length c4, .slice a5 d.rejects.length c5, .slice a6 d.boxes.length c6] 28) = w1 := ⟨_, rfl⟩
  have HB0 := hide (show Below w.heap.size w w1 by rw [← h1]; exact NB.alloc (Below.refl _ _) _)
  have HX0 := hide (show Blk w1 kx #[.string d.start, .string d.layout, .slice a2 d.prods.length c2, .slice a3 d.chains.length c3, .slice a4 d.follows.length c4, .slice a5 d.rejects.length c5, .slice a6 d.boxes.length c6] 28 by rw [← h1, ← hkx]; exact Blk.new w _ _)
  replace HD := hide (HD.out.below HB0.out)
  rw [h1, hkx]
  clear h1 hkx
  have x0 := HX0.out.cell 0
  have x1 := HX0.out.cell 1
  have x2 := HX0.out.cell 2
  have x3 := HX0.out.cell 3
  have x4 := HX0.out.cell 4
  have x5 := HX0.out.cell 5
  have x6 := HX0.out.cell 6
  have xl := HX0.out.lt
  have HC := hide (refRight_any d a2 c2 a3 c3 a4 c4 a5 c5 a6 c6 w1 HD.out)
  obtain ⟨q, hq⟩ : ∃ q, rightDfB d = q := ⟨_, rfl⟩
  have HR := hide (show res.2 = emptyB ∧ decide (res.1 = 0) = q by
    rw [← HRES.out, ← hq]; unfold formL
    cases rightDfB d <;> exact ⟨rfl, rfl⟩)
  rw [hq] at HC
  clear hq
  go_wp2_with fail
  refine HC.out.mono ?_
  rintro e w7 ⟨rfl, hb7⟩
  have HB7 := hide (below_next HB0.out hb7)
  clear hb7
  go_wp2_with fail
  go_ret2
  exact ⟨⟨emptyB, by rw [HR.out.2]; rfl, fun _ => HR.out.1.symm⟩, HB7.out⟩
set_option maxHeartbeats 1600000 in
set_option maxRecDepth 100000 in
theorem line2_any (d : Df) (a2 : Option Addr) (c2 : Nat) (a3 : Option Addr) (c3 : Nat) (a4 : Option Addr) (c4 : Nat) (a5 : Option Addr) (c5 : Nat) (a6 : Option Addr) (c6 : Nat) (w : World) (hd : RD d ⟨a2, c2, a3, c3, a4, c4, a5, c5, a6, c6⟩ w) (hln : d.prods.length ≤ 100000) (hall : (d.prods.flatMap bareL).length ≤ 99999) (hsl : ∀ p ∈ d.prods, p.syms.length ≤ 10000) : Calls Try.prog 50 #[.agg #[.string d.start, .string d.layout, .slice a2 d.prods.length c2, .slice a3 d.chains.length c3, .slice a4 d.follows.length c4, .slice a5 d.rejects.length c5, .slice a6 d.boxes.length c6], .int .i64 2] w fun e w' => (∃ s, e = .returned (.tuple #[.string s, .bool (!decide ((mixedL d).1 = 0))]) ∧ ((mixedL d).1 ≠ 0 → s = (mixedL d).2)) ∧ Below w.heap.size w w' := by
  have HLN := hide hln
  have HALL := hide hall
  have HSL := hide hsl
  clear hln hall hsl
  have HD := hide hd
  obtain ⟨res, hres⟩ : ∃ r, mixedL d = r := ⟨_, rfl⟩
  rw [hres]
  have HRES := hide hres
  clear hres hd
  go_enter Try.func50, Try.ntmps50
  go_upto_region 1 with fail
  obtain ⟨kx, hkx⟩ : ∃ kx, w.heap.size = kx := ⟨_, rfl⟩
  obtain ⟨w1, h1⟩ : ∃ w1, w.alloc (.cells #[.string d.start, .string d.layout, .slice a2 d.prods.length c2, .slice a3 d.chains.length c3, .slice a4 d.follows.length c4, .slice a5 d.rejects.length c5, .slice a6 d.boxes.length c6] 28) = w1 := ⟨_, rfl⟩
  have HB0 := hide (show Below w.heap.size w w1 by rw [← h1]; exact NB.alloc (Below.refl _ _) _)
  have HX0 := hide (show Blk w1 kx #[.string d.start, .string d.layout, .slice a2 d.prods.length c2, .slice a3 d.chains.length c3, .slice a4 d.follows.length c4, .slice a5 d.rejects.length c5, .slice a6 d.boxes.length c6] 28 by rw [← h1, ← hkx]; exact Blk.new w _ _)
  replace HD := hide (HD.out.below HB0.out)
  rw [h1, hkx]
  clear h1 hkx
  have x0 := HX0.out.cell 0
  have x1 := HX0.out.cell 1
  have x2 := HX0.out.cell 2
  have x3 := HX0.out.cell 3
  have x4 := HX0.out.cell 4
  have x5 := HX0.out.cell 5
  have x6 := HX0.out.cell 6
  have xl := HX0.out.lt
  have HC := hide (sorts2_any d a2 c2 a3 c3 a4 c4 a5 c5 a6 c6 w1 HD.out HLN.out HALL.out HSL.out)
  rw [HRES.out] at HC
  obtain ⟨c, s⟩ := res
  unfold toldV at HC
  go_wp2_with fail
  refine HC.out.mono ?_
  rintro e w7 ⟨rfl, hb7⟩
  have HB7 := hide (below_next HB0.out hb7)
  clear hb7
  go_wp2_with fail
  go_ret2
  exact ⟨⟨_, rfl, fun _ => rfl⟩, HB7.out⟩
set_option maxHeartbeats 1600000 in
set_option maxRecDepth 100000 in
theorem line10_any (d : Df) (a2 : Option Addr) (c2 : Nat) (a3 : Option Addr) (c3 : Nat) (a4 : Option Addr) (c4 : Nat) (a5 : Option Addr) (c5 : Nat) (a6 : Option Addr) (c6 : Nat) (w : World) (hd : RD d ⟨a2, c2, a3, c3, a4, c4, a5, c5, a6, c6⟩ w) (hln : d.prods.length ≤ 100000) (hall : (d.prods.flatMap bareL).length ≤ 99999) (hsl : ∀ p ∈ d.prods, p.syms.length ≤ 10000) : Calls Try.prog 50 #[.agg #[.string d.start, .string d.layout, .slice a2 d.prods.length c2, .slice a3 d.chains.length c3, .slice a4 d.follows.length c4, .slice a5 d.rejects.length c5, .slice a6 d.boxes.length c6], .int .i64 10] w fun e w' => (∃ s, e = .returned (.tuple #[.string s, .bool (!decide ((cycleL d).1 = 0))]) ∧ ((cycleL d).1 ≠ 0 → s = (cycleL d).2)) ∧ Below w.heap.size w w' := by
  have HLN := hide hln
  have HALL := hide hall
  have HSL := hide hsl
  clear hln hall hsl
  have HD := hide hd
  obtain ⟨res, hres⟩ : ∃ r, cycleL d = r := ⟨_, rfl⟩
  rw [hres]
  have HRES := hide hres
  clear hres hd
  go_enter Try.func50, Try.ntmps50
  go_upto_region 1 with fail
  obtain ⟨kx, hkx⟩ : ∃ kx, w.heap.size = kx := ⟨_, rfl⟩
  obtain ⟨w1, h1⟩ : ∃ w1, w.alloc (.cells #[.string d.start, .string d.layout, .slice a2 d.prods.length c2, .slice a3 d.chains.length c3, .slice a4 d.follows.length c4, .slice a5 d.rejects.length c5, .slice a6 d.boxes.length c6] 28) = w1 := ⟨_, rfl⟩
  have HB0 := hide (show Below w.heap.size w w1 by rw [← h1]; exact NB.alloc (Below.refl _ _) _)
  have HX0 := hide (show Blk w1 kx #[.string d.start, .string d.layout, .slice a2 d.prods.length c2, .slice a3 d.chains.length c3, .slice a4 d.follows.length c4, .slice a5 d.rejects.length c5, .slice a6 d.boxes.length c6] 28 by rw [← h1, ← hkx]; exact Blk.new w _ _)
  replace HD := hide (HD.out.below HB0.out)
  rw [h1, hkx]
  clear h1 hkx
  have x0 := HX0.out.cell 0
  have x1 := HX0.out.cell 1
  have x2 := HX0.out.cell 2
  have x3 := HX0.out.cell 3
  have x4 := HX0.out.cell 4
  have x5 := HX0.out.cell 5
  have x6 := HX0.out.cell 6
  have xl := HX0.out.lt
  have HC := hide (sorts10_any d a2 c2 a3 c3 a4 c4 a5 c5 a6 c6 w1 HD.out HLN.out HALL.out HSL.out)
  rw [HRES.out] at HC
  obtain ⟨c, s⟩ := res
  unfold toldV at HC
  go_wp2_with fail
  refine HC.out.mono ?_
  rintro e w7 ⟨rfl, hb7⟩
  have HB7 := hide (below_next HB0.out hb7)
  clear hb7
  go_wp2_with fail
  go_ret2
  exact ⟨⟨_, rfl, fun _ => rfl⟩, HB7.out⟩
set_option maxHeartbeats 1600000 in
set_option maxRecDepth 100000 in
theorem line5_any (d : Df) (a2 : Option Addr) (c2 : Nat) (a3 : Option Addr) (c3 : Nat) (a4 : Option Addr) (c4 : Nat) (a5 : Option Addr) (c5 : Nat) (a6 : Option Addr) (c6 : Nat) (w : World) (hd : RD d ⟨a2, c2, a3, c3, a4, c4, a5, c5, a6, c6⟩ w) (hln : d.prods.length ≤ 100000) (hall : (d.prods.flatMap bareL).length ≤ 99999) (hsl : ∀ p ∈ d.prods, p.syms.length ≤ 10000) : Calls Try.prog 50 #[.agg #[.string d.start, .string d.layout, .slice a2 d.prods.length c2, .slice a3 d.chains.length c3, .slice a4 d.follows.length c4, .slice a5 d.rejects.length c5, .slice a6 d.boxes.length c6], .int .i64 5] w fun e w' => (∃ s, e = .returned (.tuple #[.string s, .bool (!decide ((undefL d).1 = 0))]) ∧ ((undefL d).1 ≠ 0 → s = (undefL d).2)) ∧ Below w.heap.size w w' := by
  have HLN := hide hln
  have HALL := hide hall
  have HSL := hide hsl
  clear hln hall hsl
  have HD := hide hd
  obtain ⟨res, hres⟩ : ∃ r, undefL d = r := ⟨_, rfl⟩
  rw [hres]
  have HRES := hide hres
  clear hres hd
  go_enter Try.func50, Try.ntmps50
  go_upto_region 1 with fail
  obtain ⟨kx, hkx⟩ : ∃ kx, w.heap.size = kx := ⟨_, rfl⟩
  obtain ⟨w1, h1⟩ : ∃ w1, w.alloc (.cells #[.string d.start, .string d.layout, .slice a2 d.prods.length c2, .slice a3 d.chains.length c3, .slice a4 d.follows.length c4, .slice a5 d.rejects.length c5, .slice a6 d.boxes.length c6] 28) = w1 := ⟨_, rfl⟩
  have HB0 := hide (show Below w.heap.size w w1 by rw [← h1]; exact NB.alloc (Below.refl _ _) _)
  have HX0 := hide (show Blk w1 kx #[.string d.start, .string d.layout, .slice a2 d.prods.length c2, .slice a3 d.chains.length c3, .slice a4 d.follows.length c4, .slice a5 d.rejects.length c5, .slice a6 d.boxes.length c6] 28 by rw [← h1, ← hkx]; exact Blk.new w _ _)
  replace HD := hide (HD.out.below HB0.out)
  rw [h1, hkx]
  clear h1 hkx
  have x0 := HX0.out.cell 0
  have x1 := HX0.out.cell 1
  have x2 := HX0.out.cell 2
  have x3 := HX0.out.cell 3
  have x4 := HX0.out.cell 4
  have x5 := HX0.out.cell 5
  have x6 := HX0.out.cell 6
  have xl := HX0.out.lt
  have HC := hide (undefined_any d a2 c2 a3 c3 a4 c4 a5 c5 a6 c6 w1 HD.out HLN.out)
  rw [HRES.out] at HC
  obtain ⟨c, s⟩ := res
  unfold toldV at HC
  go_wp2_with fail
  refine HC.out.mono ?_
  rintro e w7 ⟨rfl, hb7⟩
  have HB7 := hide (below_next HB0.out hb7)
  clear hb7
  go_wp2_with fail
  go_ret2
  exact ⟨⟨_, rfl, fun _ => rfl⟩, HB7.out⟩
set_option maxHeartbeats 1600000 in
set_option maxRecDepth 100000 in
theorem line6_any (d : Df) (a2 : Option Addr) (c2 : Nat) (a3 : Option Addr) (c3 : Nat) (a4 : Option Addr) (c4 : Nat) (a5 : Option Addr) (c5 : Nat) (a6 : Option Addr) (c6 : Nat) (w : World) (hd : RD d ⟨a2, c2, a3, c3, a4, c4, a5, c5, a6, c6⟩ w) (hln : d.prods.length ≤ 100000) (hall : (d.prods.flatMap bareL).length ≤ 99999) (hsl : ∀ p ∈ d.prods, p.syms.length ≤ 10000) : Calls Try.prog 50 #[.agg #[.string d.start, .string d.layout, .slice a2 d.prods.length c2, .slice a3 d.chains.length c3, .slice a4 d.follows.length c4, .slice a5 d.rejects.length c5, .slice a6 d.boxes.length c6], .int .i64 6] w fun e w' => (∃ s, e = .returned (.tuple #[.string s, .bool (!decide ((firstG 44 (kindB d) Pd.sort d.prods).1 = 0))]) ∧ ((firstG 44 (kindB d) Pd.sort d.prods).1 ≠ 0 → s = (firstG 44 (kindB d) Pd.sort d.prods).2)) ∧ Below w.heap.size w w' := by
  have HLN := hide hln
  have HALL := hide hall
  have HSL := hide hsl
  clear hln hall hsl
  have HD := hide hd
  obtain ⟨res, hres⟩ : ∃ r, firstG 44 (kindB d) Pd.sort d.prods = r := ⟨_, rfl⟩
  rw [hres]
  have HRES := hide hres
  clear hres hd
  go_enter Try.func50, Try.ntmps50
  go_upto_region 1 with fail
  obtain ⟨kx, hkx⟩ : ∃ kx, w.heap.size = kx := ⟨_, rfl⟩
  obtain ⟨w1, h1⟩ : ∃ w1, w.alloc (.cells #[.string d.start, .string d.layout, .slice a2 d.prods.length c2, .slice a3 d.chains.length c3, .slice a4 d.follows.length c4, .slice a5 d.rejects.length c5, .slice a6 d.boxes.length c6] 28) = w1 := ⟨_, rfl⟩
  have HB0 := hide (show Below w.heap.size w w1 by rw [← h1]; exact NB.alloc (Below.refl _ _) _)
  have HX0 := hide (show Blk w1 kx #[.string d.start, .string d.layout, .slice a2 d.prods.length c2, .slice a3 d.chains.length c3, .slice a4 d.follows.length c4, .slice a5 d.rejects.length c5, .slice a6 d.boxes.length c6] 28 by rw [← h1, ← hkx]; exact Blk.new w _ _)
  replace HD := hide (HD.out.below HB0.out)
  rw [h1, hkx]
  clear h1 hkx
  have x0 := HX0.out.cell 0
  have x1 := HX0.out.cell 1
  have x2 := HX0.out.cell 2
  have x3 := HX0.out.cell 3
  have x4 := HX0.out.cell 4
  have x5 := HX0.out.cell 5
  have x6 := HX0.out.cell 6
  have xl := HX0.out.lt
  have HC := hide (prods5_any d a2 c2 a3 c3 a4 c4 a5 c5 a6 c6 w1 HD.out HSL.out)
  rw [HRES.out] at HC
  obtain ⟨c, s⟩ := res
  unfold toldV at HC
  go_wp2_with fail
  refine HC.out.mono ?_
  rintro e w7 ⟨rfl, hb7⟩
  have HB7 := hide (below_next HB0.out hb7)
  clear hb7
  go_wp2_with fail
  go_ret2
  exact ⟨⟨_, rfl, fun _ => rfl⟩, HB7.out⟩
set_option maxHeartbeats 1600000 in
set_option maxRecDepth 100000 in
theorem line7_any (d : Df) (a2 : Option Addr) (c2 : Nat) (a3 : Option Addr) (c3 : Nat) (a4 : Option Addr) (c4 : Nat) (a5 : Option Addr) (c5 : Nat) (a6 : Option Addr) (c6 : Nat) (w : World) (hd : RD d ⟨a2, c2, a3, c3, a4, c4, a5, c5, a6, c6⟩ w) (hln : d.prods.length ≤ 100000) (hall : (d.prods.flatMap bareL).length ≤ 99999) (hsl : ∀ p ∈ d.prods, p.syms.length ≤ 10000) : Calls Try.prog 50 #[.agg #[.string d.start, .string d.layout, .slice a2 d.prods.length c2, .slice a3 d.chains.length c3, .slice a4 d.follows.length c4, .slice a5 d.rejects.length c5, .slice a6 d.boxes.length c6], .int .i64 7] w fun e w' => (∃ s, e = .returned (.tuple #[.string s, .bool (!decide ((consLk d).1 = 0))]) ∧ ((consLk d).1 ≠ 0 → s = (consLk d).2)) ∧ Below w.heap.size w w' := by
  have HLN := hide hln
  have HALL := hide hall
  have HSL := hide hsl
  clear hln hall hsl
  have HD := hide hd
  obtain ⟨res, hres⟩ : ∃ r, consLk d = r := ⟨_, rfl⟩
  rw [hres]
  have HRES := hide hres
  clear hres hd
  go_enter Try.func50, Try.ntmps50
  go_upto_region 1 with fail
  obtain ⟨kx, hkx⟩ : ∃ kx, w.heap.size = kx := ⟨_, rfl⟩
  obtain ⟨w1, h1⟩ : ∃ w1, w.alloc (.cells #[.string d.start, .string d.layout, .slice a2 d.prods.length c2, .slice a3 d.chains.length c3, .slice a4 d.follows.length c4, .slice a5 d.rejects.length c5, .slice a6 d.boxes.length c6] 28) = w1 := ⟨_, rfl⟩
  have HB0 := hide (show Below w.heap.size w w1 by rw [← h1]; exact NB.alloc (Below.refl _ _) _)
  have HX0 := hide (show Blk w1 kx #[.string d.start, .string d.layout, .slice a2 d.prods.length c2, .slice a3 d.chains.length c3, .slice a4 d.follows.length c4, .slice a5 d.rejects.length c5, .slice a6 d.boxes.length c6] 28 by rw [← h1, ← hkx]; exact Blk.new w _ _)
  replace HD := hide (HD.out.below HB0.out)
  rw [h1, hkx]
  clear h1 hkx
  have x0 := HX0.out.cell 0
  have x1 := HX0.out.cell 1
  have x2 := HX0.out.cell 2
  have x3 := HX0.out.cell 3
  have x4 := HX0.out.cell 4
  have x5 := HX0.out.cell 5
  have x6 := HX0.out.cell 6
  have xl := HX0.out.lt
  have HC := hide (consTwice_any d a2 c2 a3 c3 a4 c4 a5 c5 a6 c6 w1 HD.out)
  rw [HRES.out] at HC
  obtain ⟨c, s⟩ := res
  unfold toldV at HC
  go_wp2_with fail
  refine HC.out.mono ?_
  rintro e w7 ⟨rfl, hb7⟩
  have HB7 := hide (below_next HB0.out hb7)
  clear hb7
  go_wp2_with fail
  go_ret2
  exact ⟨⟨_, rfl, fun _ => rfl⟩, HB7.out⟩
set_option maxHeartbeats 1600000 in
set_option maxRecDepth 100000 in
theorem line8_any (d : Df) (a2 : Option Addr) (c2 : Nat) (a3 : Option Addr) (c3 : Nat) (a4 : Option Addr) (c4 : Nat) (a5 : Option Addr) (c5 : Nat) (a6 : Option Addr) (c6 : Nat) (w : World) (hd : RD d ⟨a2, c2, a3, c3, a4, c4, a5, c5, a6, c6⟩ w) (hln : d.prods.length ≤ 100000) (hall : (d.prods.flatMap bareL).length ≤ 99999) (hsl : ∀ p ∈ d.prods, p.syms.length ≤ 10000) : Calls Try.prog 50 #[.agg #[.string d.start, .string d.layout, .slice a2 d.prods.length c2, .slice a3 d.chains.length c3, .slice a4 d.follows.length c4, .slice a5 d.rejects.length c5, .slice a6 d.boxes.length c6], .int .i64 8] w fun e w' => (∃ s, e = .returned (.tuple #[.string s, .bool (!decide ((firstG 46 bracketB Pd.sort d.prods).1 = 0))]) ∧ ((firstG 46 bracketB Pd.sort d.prods).1 ≠ 0 → s = (firstG 46 bracketB Pd.sort d.prods).2)) ∧ Below w.heap.size w w' := by
  have HLN := hide hln
  have HALL := hide hall
  have HSL := hide hsl
  clear hln hall hsl
  have HD := hide hd
  obtain ⟨res, hres⟩ : ∃ r, firstG 46 bracketB Pd.sort d.prods = r := ⟨_, rfl⟩
  rw [hres]
  have HRES := hide hres
  clear hres hd
  go_enter Try.func50, Try.ntmps50
  go_upto_region 1 with fail
  obtain ⟨kx, hkx⟩ : ∃ kx, w.heap.size = kx := ⟨_, rfl⟩
  obtain ⟨w1, h1⟩ : ∃ w1, w.alloc (.cells #[.string d.start, .string d.layout, .slice a2 d.prods.length c2, .slice a3 d.chains.length c3, .slice a4 d.follows.length c4, .slice a5 d.rejects.length c5, .slice a6 d.boxes.length c6] 28) = w1 := ⟨_, rfl⟩
  have HB0 := hide (show Below w.heap.size w w1 by rw [← h1]; exact NB.alloc (Below.refl _ _) _)
  have HX0 := hide (show Blk w1 kx #[.string d.start, .string d.layout, .slice a2 d.prods.length c2, .slice a3 d.chains.length c3, .slice a4 d.follows.length c4, .slice a5 d.rejects.length c5, .slice a6 d.boxes.length c6] 28 by rw [← h1, ← hkx]; exact Blk.new w _ _)
  replace HD := hide (HD.out.below HB0.out)
  rw [h1, hkx]
  clear h1 hkx
  have x0 := HX0.out.cell 0
  have x1 := HX0.out.cell 1
  have x2 := HX0.out.cell 2
  have x3 := HX0.out.cell 3
  have x4 := HX0.out.cell 4
  have x5 := HX0.out.cell 5
  have x6 := HX0.out.cell 6
  have xl := HX0.out.lt
  have HC := hide (prods7_any d a2 c2 a3 c3 a4 c4 a5 c5 a6 c6 w1 HD.out HSL.out)
  rw [HRES.out] at HC
  obtain ⟨c, s⟩ := res
  unfold toldV at HC
  go_wp2_with fail
  refine HC.out.mono ?_
  rintro e w7 ⟨rfl, hb7⟩
  have HB7 := hide (below_next HB0.out hb7)
  clear hb7
  go_wp2_with fail
  go_ret2
  exact ⟨⟨_, rfl, fun _ => rfl⟩, HB7.out⟩
set_option maxHeartbeats 1600000 in
set_option maxRecDepth 100000 in
theorem line9_any (d : Df) (a2 : Option Addr) (c2 : Nat) (a3 : Option Addr) (c3 : Nat) (a4 : Option Addr) (c4 : Nat) (a5 : Option Addr) (c5 : Nat) (a6 : Option Addr) (c6 : Nat) (w : World) (hd : RD d ⟨a2, c2, a3, c3, a4, c4, a5, c5, a6, c6⟩ w) (hln : d.prods.length ≤ 100000) (hall : (d.prods.flatMap bareL).length ≤ 99999) (hsl : ∀ p ∈ d.prods, p.syms.length ≤ 10000) : Calls Try.prog 50 #[.agg #[.string d.start, .string d.layout, .slice a2 d.prods.length c2, .slice a3 d.chains.length c3, .slice a4 d.follows.length c4, .slice a5 d.rejects.length c5, .slice a6 d.boxes.length c6], .int .i64 9] w fun e w' => (∃ s, e = .returned (.tuple #[.string s, .bool (!decide ((firstG 2 (longB d) Pd.sort d.prods).1 = 0))]) ∧ ((firstG 2 (longB d) Pd.sort d.prods).1 ≠ 0 → s = (firstG 2 (longB d) Pd.sort d.prods).2)) ∧ Below w.heap.size w w' := by
  have HLN := hide hln
  have HALL := hide hall
  have HSL := hide hsl
  clear hln hall hsl
  have HD := hide hd
  obtain ⟨res, hres⟩ : ∃ r, firstG 2 (longB d) Pd.sort d.prods = r := ⟨_, rfl⟩
  rw [hres]
  have HRES := hide hres
  clear hres hd
  go_enter Try.func50, Try.ntmps50
  go_upto_region 1 with fail
  obtain ⟨kx, hkx⟩ : ∃ kx, w.heap.size = kx := ⟨_, rfl⟩
  obtain ⟨w1, h1⟩ : ∃ w1, w.alloc (.cells #[.string d.start, .string d.layout, .slice a2 d.prods.length c2, .slice a3 d.chains.length c3, .slice a4 d.follows.length c4, .slice a5 d.rejects.length c5, .slice a6 d.boxes.length c6] 28) = w1 := ⟨_, rfl⟩
  have HB0 := hide (show Below w.heap.size w w1 by rw [← h1]; exact NB.alloc (Below.refl _ _) _)
  have HX0 := hide (show Blk w1 kx #[.string d.start, .string d.layout, .slice a2 d.prods.length c2, .slice a3 d.chains.length c3, .slice a4 d.follows.length c4, .slice a5 d.rejects.length c5, .slice a6 d.boxes.length c6] 28 by rw [← h1, ← hkx]; exact Blk.new w _ _)
  replace HD := hide (HD.out.below HB0.out)
  rw [h1, hkx]
  clear h1 hkx
  have x0 := HX0.out.cell 0
  have x1 := HX0.out.cell 1
  have x2 := HX0.out.cell 2
  have x3 := HX0.out.cell 3
  have x4 := HX0.out.cell 4
  have x5 := HX0.out.cell 5
  have x6 := HX0.out.cell 6
  have xl := HX0.out.lt
  have HC := hide (prods8_any d a2 c2 a3 c3 a4 c4 a5 c5 a6 c6 w1 HD.out HSL.out)
  rw [HRES.out] at HC
  obtain ⟨c, s⟩ := res
  unfold toldV at HC
  go_wp2_with fail
  refine HC.out.mono ?_
  rintro e w7 ⟨rfl, hb7⟩
  have HB7 := hide (below_next HB0.out hb7)
  clear hb7
  go_wp2_with fail
  go_ret2
  exact ⟨⟨_, rfl, fun _ => rfl⟩, HB7.out⟩
set_option maxHeartbeats 1600000 in
set_option maxRecDepth 100000 in
theorem line11_any (d : Df) (a2 : Option Addr) (c2 : Nat) (a3 : Option Addr) (c3 : Nat) (a4 : Option Addr) (c4 : Nat) (a5 : Option Addr) (c5 : Nat) (a6 : Option Addr) (c6 : Nat) (w : World) (hd : RD d ⟨a2, c2, a3, c3, a4, c4, a5, c5, a6, c6⟩ w) (hln : d.prods.length ≤ 100000) (hall : (d.prods.flatMap bareL).length ≤ 99999) (hsl : ∀ p ∈ d.prods, p.syms.length ≤ 10000) : Calls Try.prog 50 #[.agg #[.string d.start, .string d.layout, .slice a2 d.prods.length c2, .slice a3 d.chains.length c3, .slice a4 d.follows.length c4, .slice a5 d.rejects.length c5, .slice a6 d.boxes.length c6], .int .i64 11] w fun e w' => (∃ s, e = .returned (.tuple #[.string s, .bool (!decide ((firstG 47 nullB Pd.sort d.prods).1 = 0))]) ∧ ((firstG 47 nullB Pd.sort d.prods).1 ≠ 0 → s = (firstG 47 nullB Pd.sort d.prods).2)) ∧ Below w.heap.size w w' := by
  have HLN := hide hln
  have HALL := hide hall
  have HSL := hide hsl
  clear hln hall hsl
  have HD := hide hd
  obtain ⟨res, hres⟩ : ∃ r, firstG 47 nullB Pd.sort d.prods = r := ⟨_, rfl⟩
  rw [hres]
  have HRES := hide hres
  clear hres hd
  go_enter Try.func50, Try.ntmps50
  go_upto_region 1 with fail
  obtain ⟨kx, hkx⟩ : ∃ kx, w.heap.size = kx := ⟨_, rfl⟩
  obtain ⟨w1, h1⟩ : ∃ w1, w.alloc (.cells #[.string d.start, .string d.layout, .slice a2 d.prods.length c2, .slice a3 d.chains.length c3, .slice a4 d.follows.length c4, .slice a5 d.rejects.length c5, .slice a6 d.boxes.length c6] 28) = w1 := ⟨_, rfl⟩
  have HB0 := hide (show Below w.heap.size w w1 by rw [← h1]; exact NB.alloc (Below.refl _ _) _)
  have HX0 := hide (show Blk w1 kx #[.string d.start, .string d.layout, .slice a2 d.prods.length c2, .slice a3 d.chains.length c3, .slice a4 d.follows.length c4, .slice a5 d.rejects.length c5, .slice a6 d.boxes.length c6] 28 by rw [← h1, ← hkx]; exact Blk.new w _ _)
  replace HD := hide (HD.out.below HB0.out)
  rw [h1, hkx]
  clear h1 hkx
  have x0 := HX0.out.cell 0
  have x1 := HX0.out.cell 1
  have x2 := HX0.out.cell 2
  have x3 := HX0.out.cell 3
  have x4 := HX0.out.cell 4
  have x5 := HX0.out.cell 5
  have x6 := HX0.out.cell 6
  have xl := HX0.out.lt
  have HC := hide (prods9_any d a2 c2 a3 c3 a4 c4 a5 c5 a6 c6 w1 HD.out HSL.out)
  rw [HRES.out] at HC
  obtain ⟨c, s⟩ := res
  unfold toldV at HC
  go_wp2_with fail
  refine HC.out.mono ?_
  rintro e w7 ⟨rfl, hb7⟩
  have HB7 := hide (below_next HB0.out hb7)
  clear hb7
  go_wp2_with fail
  go_ret2
  exact ⟨⟨_, rfl, fun _ => rfl⟩, HB7.out⟩
def startL (d : Df) : Int × ByteArray := if lexOf d.prods d.start = 2 then okL else (40, d.start)
def layL (d : Df) : Int × ByteArray := if emp d.layout = true ∨ isLex d.prods d.layout true = true then okL else (41, d.layout)
set_option maxHeartbeats 1600000 in
set_option maxRecDepth 100000 in
theorem line3_any (d : Df) (a2 : Option Addr) (c2 : Nat) (a3 : Option Addr) (c3 : Nat) (a4 : Option Addr) (c4 : Nat) (a5 : Option Addr) (c5 : Nat) (a6 : Option Addr) (c6 : Nat) (w : World) (hd : RD d ⟨a2, c2, a3, c3, a4, c4, a5, c5, a6, c6⟩ w) (hln : d.prods.length ≤ 100000) (hall : (d.prods.flatMap bareL).length ≤ 99999) (hsl : ∀ p ∈ d.prods, p.syms.length ≤ 10000) : Calls Try.prog 50 #[.agg #[.string d.start, .string d.layout, .slice a2 d.prods.length c2, .slice a3 d.chains.length c3, .slice a4 d.follows.length c4, .slice a5 d.rejects.length c5, .slice a6 d.boxes.length c6], .int .i64 3] w fun e w' => (∃ s, e = .returned (.tuple #[.string s, .bool (!decide ((startL d).1 = 0))]) ∧ ((startL d).1 ≠ 0 → s = (startL d).2)) ∧ Below w.heap.size w w' := by
  have HLN := hide hln
  have HALL := hide hall
  have HSL := hide hsl
  clear hln hall hsl
  have HD := hide hd
  obtain ⟨res, hres⟩ : ∃ r, startL d = r := ⟨_, rfl⟩
  rw [hres]
  have HRES := hide hres
  clear hres hd
  go_enter Try.func50, Try.ntmps50
  go_upto_region 1 with fail
  obtain ⟨kx, hkx⟩ : ∃ kx, w.heap.size = kx := ⟨_, rfl⟩
  obtain ⟨w1, h1⟩ : ∃ w1, w.alloc (.cells #[.string d.start, .string d.layout, .slice a2 d.prods.length c2, .slice a3 d.chains.length c3, .slice a4 d.follows.length c4, .slice a5 d.rejects.length c5, .slice a6 d.boxes.length c6] 28) = w1 := ⟨_, rfl⟩
  have HB0 := hide (show Below w.heap.size w w1 by rw [← h1]; exact NB.alloc (Below.refl _ _) _)
  have HX0 := hide (show Blk w1 kx #[.string d.start, .string d.layout, .slice a2 d.prods.length c2, .slice a3 d.chains.length c3, .slice a4 d.follows.length c4, .slice a5 d.rejects.length c5, .slice a6 d.boxes.length c6] 28 by rw [← h1, ← hkx]; exact Blk.new w _ _)
  replace HD := hide (HD.out.below HB0.out)
  rw [h1, hkx]
  clear h1 hkx
  have x0 := HX0.out.cell 0
  have xl := HX0.out.lt
  have HS := hide (fun (W : World) (h : Below w1.heap.size w1 W) => (show (Hid (Below w1.heap.size w1 W) ∧ kx < W.heap.size ∧ W.cell? ⟨kx, 0, none⟩ = some (.string d.start) ∧ W.cell? ⟨kx, 1, none⟩ = some (.string d.layout) ∧ W.cell? ⟨kx, 2, none⟩ = some (.slice a2 d.prods.length c2) ∧ W.cell? ⟨kx, 3, none⟩ = some (.slice a3 d.chains.length c3) ∧ W.cell? ⟨kx, 4, none⟩ = some (.slice a4 d.follows.length c4) ∧ W.cell? ⟨kx, 5, none⟩ = some (.slice a5 d.rejects.length c5) ∧ W.cell? ⟨kx, 6, none⟩ = some (.slice a6 d.boxes.length c6)) from
    have q := HX0.out.below h
    ⟨hide h, q.lt, q.cell 0, q.cell 1, q.cell 2, q.cell 3, q.cell 4, q.cell 5, q.cell 6⟩))
  have HC1 := hide (fun (W : World) (h : Below w1.heap.size w1 W) => rIsLex_any d a2 c2 a3 c3 a4 c4 a5 c5 a6 c6 d.start false W (HD.out.below h))
  have HC2 := hide (fun (W : World) (h : Below w1.heap.size w1 W) => rIsLex_any d a2 c2 a3 c3 a4 c4 a5 c5 a6 c6 d.start true W (HD.out.below h))
  obtain ⟨b1, hb1⟩ : ∃ b1, isLex d.prods d.start false = b1 := ⟨_, rfl⟩
  obtain ⟨b2, hb2⟩ : ∃ b2, isLex d.prods d.start true = b2 := ⟨_, rfl⟩
  have HR := hide (show (res.1 ≠ 0 → res.2 = d.start) ∧ (!decide (res.1 = 0)) = (!b1 || b2) by
    rw [← HRES.out, ← hb1, ← hb2]; unfold startL lexOf
    cases isLex d.prods d.start true <;> cases isLex d.prods d.start false <;> exact ⟨fun h => by first | rfl | exact absurd rfl h, rfl⟩)
  rw [hb1] at HC1
  rw [hb2] at HC2
  clear hb1 hb2
  go_upto_region 8 with fail
  cases b1 with
  | true =>
    refine wp_region_lex 14 [(0, true), (1, true), (2, true), (3, true), (4, true), (5, false), (6, true), (7, true), (8, true), (9, true), (10, true), (11, false), (12, true), (13, true)] (fun W => (Hid (Below w1.heap.size w1 W) ∧ kx < W.heap.size ∧ W.cell? ⟨kx, 0, none⟩ = some (.string d.start) ∧ W.cell? ⟨kx, 1, none⟩ = some (.string d.layout) ∧ W.cell? ⟨kx, 2, none⟩ = some (.slice a2 d.prods.length c2) ∧ W.cell? ⟨kx, 3, none⟩ = some (.slice a3 d.chains.length c3) ∧ W.cell? ⟨kx, 4, none⟩ = some (.slice a4 d.follows.length c4) ∧ W.cell? ⟨kx, 5, none⟩ = some (.slice a5 d.rejects.length c5) ∧ W.cell? ⟨kx, 6, none⟩ = some (.slice a6 d.boxes.length c6))) rfl (by kernel_rfl) (by kernel_rfl) (fun _ _ d _ _ h => by cases d <;> exact h) (HS.out _ (Below.refl w1.heap.size w1).drew) (fun hS0 => ?_)
    simp only [lexOps, List.filterMap_cons, List.filterMap_nil, List.getElem?_cons_zero, List.getElem?_cons_succ, Option.map_some, List.drop_succ_cons, List.drop_zero]
    repeat
      first
      | (refine wpLex_take (v := ?_) (by rfl) ?_ ?_
         rotate_left
         · intro w hSw
           (try dsimp only at hSw)
           go_simp
           try with_reducible rfl
         try simp only [Act.put, List.setIfInBounds_toArray, List.set_cons_zero, List.set_cons_succ])
      | (refine wpLex_skip (by rfl) ?_
         try simp only [Act.put, List.setIfInBounds_toArray, List.set_cons_zero, List.set_cons_succ])
    refine wpLex_step (fun K hK => ?_)
    go_simp
    refine (HC1.out _ (Below.refl w1.heap.size w1).drew).mono ?_
    rintro e w7 ⟨rfl, hb7⟩
    have hs7 := HS.out w7 (below_next (Below.refl w1.heap.size w1).drew hb7)
    refine hK _ _ hs7 (fun hS1 => ?_)
    try simp only [Act.put, List.setIfInBounds_toArray, List.set_cons_zero, List.set_cons_succ]
    repeat
      first
      | (refine wpLex_take (v := ?_) (by rfl) ?_ ?_
         rotate_left
         · intro w hSw
           (try dsimp only at hSw)
           go_simp
           try with_reducible rfl
         try simp only [Act.put, List.setIfInBounds_toArray, List.set_cons_zero, List.set_cons_succ])
      | (refine wpLex_skip (by rfl) ?_
         try simp only [Act.put, List.setIfInBounds_toArray, List.set_cons_zero, List.set_cons_succ])
    refine wpLex_step (fun K hK => ?_)
    go_simp
    refine (HC2.out w7 hS1.1.out).mono ?_
    rintro e w8 ⟨rfl, hb8⟩
    have hs8 := HS.out w8 (below_next hS1.1.out hb8)
    refine hK _ _ hs8 (fun hS2 => ?_)
    try simp only [Act.put, List.setIfInBounds_toArray, List.set_cons_zero, List.set_cons_succ]
    repeat
      first
      | (refine wpLex_take (v := ?_) (by rfl) ?_ ?_
         rotate_left
         · intro w hSw
           (try dsimp only at hSw)
           go_simp
           try with_reducible rfl
         try simp only [Act.put, List.setIfInBounds_toArray, List.set_cons_zero, List.set_cons_succ])
      | (refine wpLex_skip (by rfl) ?_
         try simp only [Act.put, List.setIfInBounds_toArray, List.set_cons_zero, List.set_cons_succ])
    refine wpLex_nil ?_
    have HBZ := hide hs8.1.out
    clear hS0 hS1 hS2 hs7 hs8
    go_wp2_with fail
    go_ret2
    exact ⟨⟨d.start, by rw [HR.out.2]; rfl, fun h => (HR.out.1 h).symm⟩, below_next HB0.out HBZ.out⟩
  | false =>
    refine wp_region_lex 14 [(0, true), (1, true), (2, true), (3, true), (4, true), (5, false), (6, true), (7, true), (8, true), (9, true), (10, true), (11, false), (12, true), (13, true)] (fun W => (Hid (Below w1.heap.size w1 W) ∧ kx < W.heap.size ∧ W.cell? ⟨kx, 0, none⟩ = some (.string d.start) ∧ W.cell? ⟨kx, 1, none⟩ = some (.string d.layout) ∧ W.cell? ⟨kx, 2, none⟩ = some (.slice a2 d.prods.length c2) ∧ W.cell? ⟨kx, 3, none⟩ = some (.slice a3 d.chains.length c3) ∧ W.cell? ⟨kx, 4, none⟩ = some (.slice a4 d.follows.length c4) ∧ W.cell? ⟨kx, 5, none⟩ = some (.slice a5 d.rejects.length c5) ∧ W.cell? ⟨kx, 6, none⟩ = some (.slice a6 d.boxes.length c6))) rfl (by kernel_rfl) (by kernel_rfl) (fun _ _ d _ _ h => by cases d <;> exact h) (HS.out _ (Below.refl w1.heap.size w1).drew) (fun hS0 => ?_)
    simp only [lexOps, List.filterMap_cons, List.filterMap_nil, List.getElem?_cons_zero, List.getElem?_cons_succ, Option.map_some, List.drop_succ_cons, List.drop_zero]
    repeat
      first
      | (refine wpLex_take (v := ?_) (by rfl) ?_ ?_
         rotate_left
         · intro w hSw
           (try dsimp only at hSw)
           go_simp
           try with_reducible rfl
         try simp only [Act.put, List.setIfInBounds_toArray, List.set_cons_zero, List.set_cons_succ])
      | (refine wpLex_skip (by rfl) ?_
         try simp only [Act.put, List.setIfInBounds_toArray, List.set_cons_zero, List.set_cons_succ])
    refine wpLex_step (fun K hK => ?_)
    go_simp
    refine (HC1.out _ (Below.refl w1.heap.size w1).drew).mono ?_
    rintro e w7 ⟨rfl, hb7⟩
    have hs7 := HS.out w7 (below_next (Below.refl w1.heap.size w1).drew hb7)
    refine hK _ _ hs7 (fun hS1 => ?_)
    try simp only [Act.put, List.setIfInBounds_toArray, List.set_cons_zero, List.set_cons_succ]
    repeat
      first
      | (refine wpLex_take (v := ?_) (by rfl) ?_ ?_
         rotate_left
         · intro w hSw
           (try dsimp only at hSw)
           go_simp
           try with_reducible rfl
         try simp only [Act.put, List.setIfInBounds_toArray, List.set_cons_zero, List.set_cons_succ])
      | (refine wpLex_skip (by rfl) ?_
         try simp only [Act.put, List.setIfInBounds_toArray, List.set_cons_zero, List.set_cons_succ])
    refine wpLex_step (fun K hK => ?_)
    go_simp
    refine hK _ _ hS1 (fun hS2 => ?_)
    try simp only [Act.put, List.setIfInBounds_toArray, List.set_cons_zero, List.set_cons_succ]
    repeat
      first
      | (refine wpLex_take (v := ?_) (by rfl) ?_ ?_
         rotate_left
         · intro w hSw
           (try dsimp only at hSw)
           go_simp
           try with_reducible rfl
         try simp only [Act.put, List.setIfInBounds_toArray, List.set_cons_zero, List.set_cons_succ])
      | (refine wpLex_skip (by rfl) ?_
         try simp only [Act.put, List.setIfInBounds_toArray, List.set_cons_zero, List.set_cons_succ])
    refine wpLex_nil ?_
    have HBZ := hide hs7.1.out
    clear hS0 hS1 hS2 hs7
    go_wp2_with fail
    go_ret2
    exact ⟨⟨d.start, by rw [HR.out.2]; rfl, fun h => (HR.out.1 h).symm⟩, below_next HB0.out HBZ.out⟩
set_option maxHeartbeats 1600000 in
set_option maxRecDepth 100000 in
theorem line4_any (d : Df) (a2 : Option Addr) (c2 : Nat) (a3 : Option Addr) (c3 : Nat) (a4 : Option Addr) (c4 : Nat) (a5 : Option Addr) (c5 : Nat) (a6 : Option Addr) (c6 : Nat) (w : World) (hd : RD d ⟨a2, c2, a3, c3, a4, c4, a5, c5, a6, c6⟩ w) (hln : d.prods.length ≤ 100000) (hall : (d.prods.flatMap bareL).length ≤ 99999) (hsl : ∀ p ∈ d.prods, p.syms.length ≤ 10000) : Calls Try.prog 50 #[.agg #[.string d.start, .string d.layout, .slice a2 d.prods.length c2, .slice a3 d.chains.length c3, .slice a4 d.follows.length c4, .slice a5 d.rejects.length c5, .slice a6 d.boxes.length c6], .int .i64 4] w fun e w' => (∃ s, e = .returned (.tuple #[.string s, .bool (!decide ((layL d).1 = 0))]) ∧ ((layL d).1 ≠ 0 → s = (layL d).2)) ∧ Below w.heap.size w w' := by
  have HLN := hide hln
  have HALL := hide hall
  have HSL := hide hsl
  clear hln hall hsl
  have HD := hide hd
  obtain ⟨res, hres⟩ : ∃ r, layL d = r := ⟨_, rfl⟩
  rw [hres]
  have HRES := hide hres
  clear hres hd
  go_enter Try.func50, Try.ntmps50
  go_upto_region 1 with fail
  obtain ⟨kx, hkx⟩ : ∃ kx, w.heap.size = kx := ⟨_, rfl⟩
  obtain ⟨w1, h1⟩ : ∃ w1, w.alloc (.cells #[.string d.start, .string d.layout, .slice a2 d.prods.length c2, .slice a3 d.chains.length c3, .slice a4 d.follows.length c4, .slice a5 d.rejects.length c5, .slice a6 d.boxes.length c6] 28) = w1 := ⟨_, rfl⟩
  have HB0 := hide (show Below w.heap.size w w1 by rw [← h1]; exact NB.alloc (Below.refl _ _) _)
  have HX0 := hide (show Blk w1 kx #[.string d.start, .string d.layout, .slice a2 d.prods.length c2, .slice a3 d.chains.length c3, .slice a4 d.follows.length c4, .slice a5 d.rejects.length c5, .slice a6 d.boxes.length c6] 28 by rw [← h1, ← hkx]; exact Blk.new w _ _)
  replace HD := hide (HD.out.below HB0.out)
  rw [h1, hkx]
  clear h1 hkx
  have x1 := HX0.out.cell 1
  have xl := HX0.out.lt
  have HS := hide (fun (W : World) (h : Below w1.heap.size w1 W) => (show (Hid (Below w1.heap.size w1 W) ∧ kx < W.heap.size ∧ W.cell? ⟨kx, 0, none⟩ = some (.string d.start) ∧ W.cell? ⟨kx, 1, none⟩ = some (.string d.layout) ∧ W.cell? ⟨kx, 2, none⟩ = some (.slice a2 d.prods.length c2) ∧ W.cell? ⟨kx, 3, none⟩ = some (.slice a3 d.chains.length c3) ∧ W.cell? ⟨kx, 4, none⟩ = some (.slice a4 d.follows.length c4) ∧ W.cell? ⟨kx, 5, none⟩ = some (.slice a5 d.rejects.length c5) ∧ W.cell? ⟨kx, 6, none⟩ = some (.slice a6 d.boxes.length c6)) from
    have q := HX0.out.below h
    ⟨hide h, q.lt, q.cell 0, q.cell 1, q.cell 2, q.cell 3, q.cell 4, q.cell 5, q.cell 6⟩))
  have HC1 := hide (fun (W : World) (h : Below w1.heap.size w1 W) => rIsLex_any d a2 c2 a3 c3 a4 c4 a5 c5 a6 c6 d.layout true W (HD.out.below h))
  obtain ⟨b1, hb1⟩ : ∃ b1, isLex d.prods d.layout true = b1 := ⟨_, rfl⟩
  rcases emp_or d.layout with ⟨bn, zn, yn, vn, xn⟩ | ⟨bn, zn, yn, vn, xn⟩
  · have hne : (d.layout.toList == []) = true := by rw [xn]; rfl
    have hne2 : (!d.layout.toList == []) = false := by rw [hne]; rfl
    have HR := hide (show (res.1 ≠ 0 → res.2 = d.layout) ∧ (!decide (res.1 = 0)) = false by
      rw [← HRES.out]; unfold layL
      rw [if_pos (Or.inl zn.out)]; exact ⟨fun h => absurd rfl h, rfl⟩)
    clear hb1 HC1
    go_upto_region 10 with fail
    refine wp_region_lex 13 [(0, true), (1, true), (2, true), (3, true), (4, true), (5, true), (6, true), (7, true), (8, true), (9, false), (10, true), (11, true), (12, true)] (fun W => (Hid (Below w1.heap.size w1 W) ∧ kx < W.heap.size ∧ W.cell? ⟨kx, 0, none⟩ = some (.string d.start) ∧ W.cell? ⟨kx, 1, none⟩ = some (.string d.layout) ∧ W.cell? ⟨kx, 2, none⟩ = some (.slice a2 d.prods.length c2) ∧ W.cell? ⟨kx, 3, none⟩ = some (.slice a3 d.chains.length c3) ∧ W.cell? ⟨kx, 4, none⟩ = some (.slice a4 d.follows.length c4) ∧ W.cell? ⟨kx, 5, none⟩ = some (.slice a5 d.rejects.length c5) ∧ W.cell? ⟨kx, 6, none⟩ = some (.slice a6 d.boxes.length c6))) rfl (by kernel_rfl) (by kernel_rfl) (fun _ _ d _ _ h => by cases d <;> exact h) (HS.out _ (Below.refl w1.heap.size w1).drew) (fun hS0 => ?_)
    simp only [lexOps, List.filterMap_cons, List.filterMap_nil, List.getElem?_cons_zero, List.getElem?_cons_succ, Option.map_some, List.drop_succ_cons, List.drop_zero]
    repeat
      first
      | (refine wpLex_take (v := ?_) (by rfl) ?_ ?_
         rotate_left
         · intro w hSw
           (try dsimp only at hSw)
           go_simp
           try with_reducible rfl
         try simp only [Act.put, List.setIfInBounds_toArray, List.set_cons_zero, List.set_cons_succ])
      | (refine wpLex_skip (by rfl) ?_
         try simp only [Act.put, List.setIfInBounds_toArray, List.set_cons_zero, List.set_cons_succ])
    refine wpLex_step (fun K hK => ?_)
    go_simp
    refine hK _ _ hS0 (fun hS1 => ?_)
    try simp only [Act.put, List.setIfInBounds_toArray, List.set_cons_zero, List.set_cons_succ]
    repeat
      first
      | (refine wpLex_take (v := ?_) (by rfl) ?_ ?_
         rotate_left
         · intro w hSw
           (try dsimp only at hSw)
           go_simp
           try with_reducible rfl
         try simp only [Act.put, List.setIfInBounds_toArray, List.set_cons_zero, List.set_cons_succ])
      | (refine wpLex_skip (by rfl) ?_
         try simp only [Act.put, List.setIfInBounds_toArray, List.set_cons_zero, List.set_cons_succ])
    refine wpLex_nil ?_
    have HBZ := hide hS0.1.out
    clear hS0 hS1
    go_wp2_with fail
    go_ret2
    exact ⟨⟨d.layout, by rw [HR.out.2]; rfl, fun h => (HR.out.1 h).symm⟩, below_next HB0.out HBZ.out⟩
  · have hne : (d.layout.toList == []) = false := beq_eq_false_iff_ne.2 xn
    have hne2 : (!d.layout.toList == []) = true := by rw [hne]; rfl
    have HR := hide (show (res.1 ≠ 0 → res.2 = d.layout) ∧ (!decide (res.1 = 0)) = !b1 by
      rw [← HRES.out, ← hb1]; unfold layL
      rw [show emp d.layout = false from zn.out]
      cases isLex d.prods d.layout true <;> exact ⟨fun h => by first | rfl | exact absurd rfl h, rfl⟩)
    rw [hb1] at HC1
    clear hb1
    go_upto_region 10 with fail
    refine wp_region_lex 13 [(0, true), (1, true), (2, true), (3, true), (4, true), (5, true), (6, true), (7, true), (8, true), (9, false), (10, true), (11, true), (12, true)] (fun W => (Hid (Below w1.heap.size w1 W) ∧ kx < W.heap.size ∧ W.cell? ⟨kx, 0, none⟩ = some (.string d.start) ∧ W.cell? ⟨kx, 1, none⟩ = some (.string d.layout) ∧ W.cell? ⟨kx, 2, none⟩ = some (.slice a2 d.prods.length c2) ∧ W.cell? ⟨kx, 3, none⟩ = some (.slice a3 d.chains.length c3) ∧ W.cell? ⟨kx, 4, none⟩ = some (.slice a4 d.follows.length c4) ∧ W.cell? ⟨kx, 5, none⟩ = some (.slice a5 d.rejects.length c5) ∧ W.cell? ⟨kx, 6, none⟩ = some (.slice a6 d.boxes.length c6))) rfl (by kernel_rfl) (by kernel_rfl) (fun _ _ d _ _ h => by cases d <;> exact h) (HS.out _ (Below.refl w1.heap.size w1).drew) (fun hS0 => ?_)
    simp only [lexOps, List.filterMap_cons, List.filterMap_nil, List.getElem?_cons_zero, List.getElem?_cons_succ, Option.map_some, List.drop_succ_cons, List.drop_zero]
    repeat
      first
      | (refine wpLex_take (v := ?_) (by rfl) ?_ ?_
         rotate_left
         · intro w hSw
           (try dsimp only at hSw)
           go_simp
           try with_reducible rfl
         try simp only [Act.put, List.setIfInBounds_toArray, List.set_cons_zero, List.set_cons_succ])
      | (refine wpLex_skip (by rfl) ?_
         try simp only [Act.put, List.setIfInBounds_toArray, List.set_cons_zero, List.set_cons_succ])
    refine wpLex_step (fun K hK => ?_)
    go_simp
    refine (HC1.out _ (Below.refl w1.heap.size w1).drew).mono ?_
    rintro e w7 ⟨rfl, hb7⟩
    have hs7 := HS.out w7 (below_next (Below.refl w1.heap.size w1).drew hb7)
    refine hK _ _ hs7 (fun hS1 => ?_)
    try simp only [Act.put, List.setIfInBounds_toArray, List.set_cons_zero, List.set_cons_succ]
    repeat
      first
      | (refine wpLex_take (v := ?_) (by rfl) ?_ ?_
         rotate_left
         · intro w hSw
           (try dsimp only at hSw)
           go_simp
           try with_reducible rfl
         try simp only [Act.put, List.setIfInBounds_toArray, List.set_cons_zero, List.set_cons_succ])
      | (refine wpLex_skip (by rfl) ?_
         try simp only [Act.put, List.setIfInBounds_toArray, List.set_cons_zero, List.set_cons_succ])
    refine wpLex_nil ?_
    have HBZ := hide hs7.1.out
    clear hS0 hS1 hs7
    go_wp2_with fail
    go_ret2
    exact ⟨⟨d.layout, by rw [HR.out.2]; rfl, fun h => (HR.out.1 h).symm⟩, below_next HB0.out HBZ.out⟩
end Go.Proofs.Ytalicfpcmcbdbaa
