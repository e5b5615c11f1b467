/- The reference: sorts. -/
import Derived.Test.YtalicfpcmcbdbaaZCkI
import Derived.Test.YtalicfpcmcbdbaaZCkG
import Derived.Test.YtalicfpcmcbdbaaZRefS
import Derived.Test.YtalicfpcmcbdbaaZLookA
import Derived.BigQuiet
set_option linter.unusedVariables false
set_option linter.unusedSimpArgs false
set_option linter.unnecessarySimpa false
set_option linter.deprecated false
namespace Go.Proofs.Ytalicfpcmcbdbaa
open Go.RowKit

set_option maxHeartbeats 800000 in
set_option maxRecDepth 100000 in
theorem sorts2_any (d : Df) (a2 : Option Addr) (c2 : Nat) (a3 : Option Addr) (c3 : Nat) (a4 : Option Addr) (c4 : Nat) (a5 : Option Addr) (c5 : Nat) (a6 : Option Addr) (c6 : Nat) (w : World) (hd : RD d ⟨a2, c2, a3, c3, a4, c4, a5, c5, a6, c6⟩ w) (hln : d.prods.length ≤ 100000) (hall : (d.prods.flatMap bareL).length ≤ 99999) (hsl : ∀ p ∈ d.prods, p.syms.length ≤ 10000) : Calls Try.prog 76 #[.agg #[.string d.start, .string d.layout, .slice a2 d.prods.length c2, .slice a3 d.chains.length c3, .slice a4 d.follows.length c4, .slice a5 d.rejects.length c5, .slice a6 d.boxes.length c6], .int .i64 2] w fun e w' => e = .returned (toldV (mixedL d)) ∧ Below w.heap.size w w' := by
  have HALL := hide hall
  have HSL := hide hsl
  have HLN := hide hln
  clear hall hsl hln
  have HD := hide hd
  obtain ⟨res, hres⟩ : ∃ r, toldV (mixedL d) = r := ⟨_, rfl⟩
  rw [hres]
  have HRES := hide hres
  clear hres hd
  go_enter Try.func76, Try.ntmps76
  go_upto_region 1 with fail
  obtain ⟨kx, hkx⟩ : ∃ kx, w.heap.size = kx := ⟨_, rfl⟩
  obtain ⟨w1, h1⟩ : ∃ w1, w.alloc (.cells #[.string d.start, .string d.layout, .slice a2 d.prods.length c2, .slice a3 d.chains.length c3, .slice a4 d.follows.length c4, .slice a5 d.rejects.length c5, .slice a6 d.boxes.length c6] 28) = w1 := ⟨_, rfl⟩
  have HB0 := hide (show Below w.heap.size w w1 by rw [← h1]; exact NB.alloc (Below.refl _ _) _)
  have HX0 := hide (show Blk w1 kx #[.string d.start, .string d.layout, .slice a2 d.prods.length c2, .slice a3 d.chains.length c3, .slice a4 d.follows.length c4, .slice a5 d.rejects.length c5, .slice a6 d.boxes.length c6] 28 by rw [← h1, ← hkx]; exact Blk.new w _ _)
  replace HD := hide (HD.out.below HB0.out)
  rw [h1, hkx]
  clear h1 hkx
  have x0 := HX0.out.cell 0
  have x1 := HX0.out.cell 1
  have x2 := HX0.out.cell 2
  have x3 := HX0.out.cell 3
  have x4 := HX0.out.cell 4
  have x5 := HX0.out.cell 5
  have x6 := HX0.out.cell 6
  have xl := HX0.out.lt
  have HSO := hide (rSorts_any d a2 c2 a3 c3 a4 c4 a5 c5 a6 c6 w1 HD.out HLN.out)
  go_wp2_with fail
  refine HSO.out.mono ?_
  rintro e w2 ⟨v2, rfl, ho2, hb2⟩
  have hsl2 := sortsL_len d.prods
  have hln := HLN.out
  obtain ⟨a8, c8, rfl, hr8⟩ := ho2.row (by omega)
  have HR8 := hide hr8
  have HB2 := hide hb2
  clear ho2 hr8 hb2 x0 x1 x2 x3 x4 x5 x6 xl
  go_wp2_with fail
  go_loopg [7] (sortsL d.prods).length (fun u v7 wr => ∃ k : Nat, Hid (u = (sortsL d.prods).length - k) ∧ v7 = .int .i64 (k : Int) ∧ Hid (k ≤ (sortsL d.prods).length ∧ Below w2.heap.size w2 wr ∧ ∀ j (h : j < (sortsL d.prods).length), j < k → (fun s => decide (lexOf d.prods s = 3)) (sortsL d.prods)[j] = false))
  case atStart => exact ⟨0, hide rfl, rfl, hide ⟨Nat.zero_le _, Below.refl _ _, fun _ _ h => absurd h (Nat.not_lt_zero _)⟩⟩
  case round =>
    obtain ⟨k, hu, rfl, hh⟩ := hrel
    have hkl := hh.out.1
    have HBR := hide (below_next HB2.out hh.out.2.1)
    by_cases hlt : k < (sortsL d.prods).length
    · have hlti : (k : Int) < ((sortsL d.prods).length : Int) := by omega
      obtain ⟨b, o, rfl, hb, hat⟩ := (HR8.out.below StrAt.stable hh.out.2.1).get hlt
      have hx := hat k hlt
      rw [Nat.mul_one] at hx
      have HNX := hide (fun (hf : (fun s => decide (lexOf d.prods s = 3)) (sortsL d.prods)[k] = false) => (show ∀ j (h : j < (sortsL d.prods).length), j < k + 1 → (fun s => decide (lexOf d.prods s = 3)) (sortsL d.prods)[j] = false from fun j h hj => by
        by_cases e : j = k
        · subst e; exact hf
        · exact hh.out.2.2 j h (by omega)))
      have HHI := hide (fun (ht : (fun s => decide (lexOf d.prods s = 3)) (sortsL d.prods)[k] = true) => (show res = toldV (42, (sortsL d.prods)[k]) by
        rw [← HRES.out]
        unfold mixedL
        rw [firstL_hit 42 _ _ k hlt hh.out.2.2 ht]))
      have HBO := hide hh.out.2.1
      generalize (sortsL d.prods)[k] = n at hx HNX HHI
      have f0 := hx.2
      have HSN := hide hx.1
      clear hat hx hh
      have x0 := (HX0.out.below HBR.out).cell 0
      have x1 := (HX0.out.below HBR.out).cell 1
      have x2 := (HX0.out.below HBR.out).cell 2
      have x3 := (HX0.out.below HBR.out).cell 3
      have x4 := (HX0.out.below HBR.out).cell 4
      have x5 := (HX0.out.below HBR.out).cell 5
      have x6 := (HX0.out.below HBR.out).cell 6
      have xl := (HX0.out.below HBR.out).lt
      have HI1 := hide (rIsLex_any d a2 c2 a3 c3 a4 c4 a5 c5 a6 c6 n true wr (HD.out.below HBR.out))
      obtain ⟨b1, hb1⟩ : ∃ b1, isLex d.prods n true = b1 := ⟨_, rfl⟩
      obtain ⟨b2, hb2⟩ : ∃ b2, isLex d.prods n false = b2 := ⟨_, rfl⟩
      have HLO := hide (show lexOf d.prods n = (if b1 = true then 1 else 0) + (if b2 = true then 2 else 0) by unfold lexOf; rw [hb1, hb2])
      rw [hb1] at HI1
      go_wp2_with fail
      refine HI1.out.mono ?_
      rintro e w7 ⟨rfl, hb7⟩
      have HB7 := hide (below_next HBR.out hb7)
      have HBO7 := hide (below_next HBO.out hb7)
      cases b1 with
      | false =>
        have HN := hide (HNX.out (by rw [decide_eq_false_iff_not, HLO.out]; cases b2 <;> decide))
        have HBN := hide HBO7.out
        clear hb1 hb2 x0 x1 x2 x3 x4 x5 x6 xl
        go_wp2_with fail
        go_roundg ((sortsL d.prods).length - (k + 1))
        case measure => rw [hu.out]; omega
        case rel => exact ⟨k + 1, hide rfl, by go_num, hide ⟨hlt, HBN.out, HN.out⟩⟩
      | true =>
        have HI2 := hide (rIsLex_any d a2 c2 a3 c3 a4 c4 a5 c5 a6 c6 n false w7 (HD.out.below HB7.out))
        rw [hb2] at HI2
        have HX7 := hide (HX0.out.below HB7.out)
        clear hb1 hb2 x0 x1 x2 x3 x4 x5 x6 xl hb7
        have x0 := HX7.out.cell 0
        have x1 := HX7.out.cell 1
        have x2 := HX7.out.cell 2
        have x3 := HX7.out.cell 3
        have x4 := HX7.out.cell 4
        have x5 := HX7.out.cell 5
        have x6 := HX7.out.cell 6
        have xl := HX7.out.lt
        go_wp2_with fail
        refine HI2.out.mono ?_
        rintro e w8 ⟨rfl, hb8⟩
        have HBN := hide (below_next HBO7.out hb8)
        cases b2 with
        | false =>
          have HN := hide (HNX.out (by rw [decide_eq_false_iff_not, HLO.out]; decide))
          clear x0 x1 x2 x3 x4 x5 x6 xl
          go_wp2_with fail
          go_roundg ((sortsL d.prods).length - (k + 1))
          case measure => rw [hu.out]; omega
          case rel => exact ⟨k + 1, hide rfl, by go_num, hide ⟨hlt, HBN.out, HN.out⟩⟩
        | true =>
          have HF := hide (HHI.out (by rw [decide_eq_true_eq, HLO.out]; decide))
          clear x0 x1 x2 x3 x4 x5 x6 xl
          go_wp2_with fail
          go_ret2
          exact ⟨by rw [HF.out]; rfl, below_next HB0.out (below_next HB2.out HBN.out)⟩
    · have hlti : ¬ (k : Int) < ((sortsL d.prods).length : Int) := by omega
      have HF := hide (show res = toldV okL by
        rw [← HRES.out]
        unfold mixedL
        rw [firstL_miss 42 _ _ (fun j h => hh.out.2.2 j h (by omega))])
      have HBN := hide hh.out.2.1
      go_wp2_with fail
      go_ret2
      exact ⟨by rw [HF.out]; rfl, below_next HB0.out (below_next HB2.out HBN.out)⟩
open Classical in
set_option maxHeartbeats 800000 in
set_option maxRecDepth 100000 in
theorem sorts10_any (d : Df) (a2 : Option Addr) (c2 : Nat) (a3 : Option Addr) (c3 : Nat) (a4 : Option Addr) (c4 : Nat) (a5 : Option Addr) (c5 : Nat) (a6 : Option Addr) (c6 : Nat) (w : World) (hd : RD d ⟨a2, c2, a3, c3, a4, c4, a5, c5, a6, c6⟩ w) (hln : d.prods.length ≤ 100000) (hall : (d.prods.flatMap bareL).length ≤ 99999) (hsl : ∀ p ∈ d.prods, p.syms.length ≤ 10000) : Calls Try.prog 76 #[.agg #[.string d.start, .string d.layout, .slice a2 d.prods.length c2, .slice a3 d.chains.length c3, .slice a4 d.follows.length c4, .slice a5 d.rejects.length c5, .slice a6 d.boxes.length c6], .int .i64 10] w fun e w' => e = .returned (toldV (cycleL d)) ∧ Below w.heap.size w w' := by
  have HALL := hide hall
  have HSL := hide hsl
  have HLN := hide hln
  clear hall hsl hln
  have HD := hide hd
  obtain ⟨res, hres⟩ : ∃ r, toldV (cycleL d) = r := ⟨_, rfl⟩
  rw [hres]
  have HRES := hide hres
  clear hres hd
  go_enter Try.func76, Try.ntmps76
  go_upto_region 1 with fail
  obtain ⟨kx, hkx⟩ : ∃ kx, w.heap.size = kx := ⟨_, rfl⟩
  obtain ⟨w1, h1⟩ : ∃ w1, w.alloc (.cells #[.string d.start, .string d.layout, .slice a2 d.prods.length c2, .slice a3 d.chains.length c3, .slice a4 d.follows.length c4, .slice a5 d.rejects.length c5, .slice a6 d.boxes.length c6] 28) = w1 := ⟨_, rfl⟩
  have HB0 := hide (show Below w.heap.size w w1 by rw [← h1]; exact NB.alloc (Below.refl _ _) _)
  have HX0 := hide (show Blk w1 kx #[.string d.start, .string d.layout, .slice a2 d.prods.length c2, .slice a3 d.chains.length c3, .slice a4 d.follows.length c4, .slice a5 d.rejects.length c5, .slice a6 d.boxes.length c6] 28 by rw [← h1, ← hkx]; exact Blk.new w _ _)
  replace HD := hide (HD.out.below HB0.out)
  rw [h1, hkx]
  clear h1 hkx
  have x0 := HX0.out.cell 0
  have x1 := HX0.out.cell 1
  have x2 := HX0.out.cell 2
  have x3 := HX0.out.cell 3
  have x4 := HX0.out.cell 4
  have x5 := HX0.out.cell 5
  have x6 := HX0.out.cell 6
  have xl := HX0.out.lt
  have HSO := hide (rSorts_any d a2 c2 a3 c3 a4 c4 a5 c5 a6 c6 w1 HD.out HLN.out)
  go_wp2_with fail
  refine HSO.out.mono ?_
  rintro e w2 ⟨v2, rfl, ho2, hb2⟩
  have hsl2 := sortsL_len d.prods
  have hln := HLN.out
  obtain ⟨a8, c8, rfl, hr8⟩ := ho2.row (by omega)
  have HR8 := hide hr8
  have HB2 := hide hb2
  clear ho2 hr8 hb2 x0 x1 x2 x3 x4 x5 x6 xl
  go_wp2_with fail
  go_loopg [7] (sortsL d.prods).length (fun u v7 wr => ∃ k : Nat, Hid (u = (sortsL d.prods).length - k) ∧ v7 = .int .i64 (k : Int) ∧ Hid (k ≤ (sortsL d.prods).length ∧ Below w2.heap.size w2 wr ∧ ∀ j (h : j < (sortsL d.prods).length), j < k → (fun s => decide (Reach d.prods bareL s s)) (sortsL d.prods)[j] = false))
  case atStart => exact ⟨0, hide rfl, rfl, hide ⟨Nat.zero_le _, Below.refl _ _, fun _ _ h => absurd h (Nat.not_lt_zero _)⟩⟩
  case round =>
    obtain ⟨k, hu, rfl, hh⟩ := hrel
    have hkl := hh.out.1
    have HBR := hide (below_next HB2.out hh.out.2.1)
    by_cases hlt : k < (sortsL d.prods).length
    · have hlti : (k : Int) < ((sortsL d.prods).length : Int) := by omega
      obtain ⟨b, o, rfl, hb, hat⟩ := (HR8.out.below StrAt.stable hh.out.2.1).get hlt
      have hx := hat k hlt
      rw [Nat.mul_one] at hx
      have HNX := hide (fun (hf : (fun s => decide (Reach d.prods bareL s s)) (sortsL d.prods)[k] = false) => (show ∀ j (h : j < (sortsL d.prods).length), j < k + 1 → (fun s => decide (Reach d.prods bareL s s)) (sortsL d.prods)[j] = false from fun j h hj => by
        by_cases e : j = k
        · subst e; exact hf
        · exact hh.out.2.2 j h (by omega)))
      have HHI := hide (fun (ht : (fun s => decide (Reach d.prods bareL s s)) (sortsL d.prods)[k] = true) => (show res = toldV (48, (sortsL d.prods)[k]) by
        rw [← HRES.out]
        unfold cycleL
        rw [firstL_hit 48 _ _ k hlt hh.out.2.2 ht]))
      have HBO := hide hh.out.2.1
      generalize (sortsL d.prods)[k] = n at hx HNX HHI
      have f0 := hx.2
      have HSN := hide hx.1
      clear hat hx hh
      have x0 := (HX0.out.below HBR.out).cell 0
      have x1 := (HX0.out.below HBR.out).cell 1
      have x2 := (HX0.out.below HBR.out).cell 2
      have x3 := (HX0.out.below HBR.out).cell 3
      have x4 := (HX0.out.below HBR.out).cell 4
      have x5 := (HX0.out.below HBR.out).cell 5
      have x6 := (HX0.out.below HBR.out).cell 6
      have xl := (HX0.out.below HBR.out).lt
      have HI1 := hide (farB_any d a2 c2 a3 c3 a4 c4 a5 c5 a6 c6 n wr (HD.out.below HBR.out) HSN.out HALL.out HSL.out)
      go_wp2_with fail
      refine HI1.out.mono ?_
      rintro e w7 ⟨v7, met, rfl, ho7, hm7, hl7, hb7⟩
      have HBN := hide (below_next HBO.out hb7)
      obtain ⟨a7, c7, rfl, hr7⟩ := ho7.row (by omega)
      have HIN := hide (rIn_any met n a7 c7 w7 hr7)
      have HM7 := hide (hm7 n)
      clear x0 x1 x2 x3 x4 x5 x6 xl ho7 hm7 hb7 hr7
      cases hin : inB n met with
      | true =>
        rw [hin] at HIN
        have HF := hide (HHI.out (decide_eq_true (HM7.out.1 ((inB_iff _ _).1 hin))))
        clear hin
        go_wp2_with fail
        refine HIN.out.mono ?_
        rintro e w8 ⟨rfl, rfl⟩
        go_wp2_with fail
        go_ret2
        exact ⟨by rw [HF.out]; rfl, below_next HB0.out (below_next HB2.out HBN.out)⟩
      | false =>
        rw [hin] at HIN
        have HN := hide (HNX.out (decide_eq_false (fun h => by rw [(inB_iff _ _).2 (HM7.out.2 h)] at hin; cases hin)))
        clear hin
        go_wp2_with fail
        refine HIN.out.mono ?_
        rintro e w8 ⟨rfl, rfl⟩
        go_wp2_with fail
        go_roundg ((sortsL d.prods).length - (k + 1))
        case measure => rw [hu.out]; omega
        case rel => exact ⟨k + 1, hide rfl, by go_num, hide ⟨hlt, HBN.out, HN.out⟩⟩
    · have hlti : ¬ (k : Int) < ((sortsL d.prods).length : Int) := by omega
      have HF := hide (show res = toldV okL by
        rw [← HRES.out]
        unfold cycleL
        rw [firstL_miss 48 _ _ (fun j h => hh.out.2.2 j h (by omega))])
      have HBN := hide hh.out.2.1
      go_wp2_with fail
      go_ret2
      exact ⟨by rw [HF.out]; rfl, below_next HB0.out (below_next HB2.out HBN.out)⟩
end Go.Proofs.Ytalicfpcmcbdbaa
