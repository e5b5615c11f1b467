/- The reference: prods. -/
import Derived.Test.YtalicfpcmcbdbaaZCkC
import Derived.Test.YtalicfpcmcbdbaaZCkD
import Derived.Test.YtalicfpcmcbdbaaZCkE
import Derived.Test.YtalicfpcmcbdbaaZLook7
import Derived.BigQuiet
set_option linter.unusedVariables false
set_option linter.unusedSimpArgs false
set_option linter.unnecessarySimpa false
set_option linter.deprecated false
namespace Go.Proofs.Ytalicfpcmcbdbaa
open Go.RowKit

/-- What a line of the looks tells. -/
def toldV (r : Int × ByteArray) : Value := .tuple #[.string r.2, .bool (!decide (r.1 = 0))]
set_option maxHeartbeats 800000 in
set_option maxRecDepth 100000 in
theorem prods5_any (d : Df) (a2 : Option Addr) (c2 : Nat) (a3 : Option Addr) (c3 : Nat) (a4 : Option Addr) (c4 : Nat) (a5 : Option Addr) (c5 : Nat) (a6 : Option Addr) (c6 : Nat) (w : World) (hd : RD d ⟨a2, c2, a3, c3, a4, c4, a5, c5, a6, c6⟩ w) (hs : ∀ p ∈ d.prods, p.syms.length ≤ 10000) : Calls Try.prog 78 #[.agg #[.string d.start, .string d.layout, .slice a2 d.prods.length c2, .slice a3 d.chains.length c3, .slice a4 d.follows.length c4, .slice a5 d.rejects.length c5, .slice a6 d.boxes.length c6], .int .i64 5] w fun e w' => e = .returned (toldV (firstG 44 (kindB d) Pd.sort d.prods)) ∧ Below w.heap.size w w' := by
  have HSL := hide hs
  have hpl := hd.p.1
  clear hs
  have HD := hide hd
  obtain ⟨res, hres⟩ : ∃ r, toldV (firstG 44 (kindB d) Pd.sort d.prods) = r := ⟨_, rfl⟩
  rw [hres]
  have HRES := hide hres
  clear hres hd
  go_enter Try.func78, Try.ntmps78
  go_upto_region 1 with fail
  obtain ⟨kx, hkx⟩ : ∃ kx, w.heap.size = kx := ⟨_, rfl⟩
  obtain ⟨w1, h1⟩ : ∃ w1, w.alloc (.cells #[.string d.start, .string d.layout, .slice a2 d.prods.length c2, .slice a3 d.chains.length c3, .slice a4 d.follows.length c4, .slice a5 d.rejects.length c5, .slice a6 d.boxes.length c6] 28) = w1 := ⟨_, rfl⟩
  have HB0 := hide (show Below w.heap.size w w1 by rw [← h1]; exact NB.alloc (Below.refl _ _) _)
  have HX0 := hide (show Blk w1 kx #[.string d.start, .string d.layout, .slice a2 d.prods.length c2, .slice a3 d.chains.length c3, .slice a4 d.follows.length c4, .slice a5 d.rejects.length c5, .slice a6 d.boxes.length c6] 28 by rw [← h1, ← hkx]; exact Blk.new w _ _)
  replace HD := hide (HD.out.below HB0.out)
  rw [h1, hkx]
  clear h1 hkx
  go_wp2_with fail
  go_loopg [6] d.prods.length (fun u v6 wr => ∃ k : Nat, Hid (u = d.prods.length - k) ∧ v6 = .int .i64 (k : Int) ∧ Hid (k ≤ d.prods.length ∧ Below w1.heap.size w1 wr ∧ ∀ j (h : j < d.prods.length), j < k → (kindB d) d.prods[j] = false))
  case atStart => exact ⟨0, hide rfl, rfl, hide ⟨Nat.zero_le _, Below.refl _ _, fun _ _ h => absurd h (Nat.not_lt_zero _)⟩⟩
  case round =>
    obtain ⟨k, hu, rfl, hh⟩ := hrel
    have hkl := hh.out.1
    have HXR := hide (HX0.out.below hh.out.2.1)
    have HBR := hide hh.out.2.1
    have x2 := HXR.out.cell 2
    have xl := HXR.out.lt
    by_cases hlt : k < d.prods.length
    · have hlti : (k : Int) < (d.prods.length : Int) := by omega
      obtain ⟨b, o, rfl, hb, hat⟩ := (HD.out.below hh.out.2.1).p.get hlt
      have hx := hat k hlt
      have HNX := hide (fun (hf : (kindB d) d.prods[k] = false) => (show ∀ j (h : j < d.prods.length), j < k + 1 → (kindB d) d.prods[j] = false from fun j h hj => by
        by_cases e : j = k
        · subst e; exact hf
        · exact hh.out.2.2 j h (by omega)))
      have HHI := hide (fun (ht : (kindB d) d.prods[k] = true) => (show res = toldV (44, (d.prods[k]).sort) by
        rw [← HRES.out, firstG_hit 44 _ _ d.prods k hlt hh.out.2.2 ht]))
      have hps := HSL.out _ (List.getElem_mem hlt)
      generalize d.prods[k] = x at hx HNX HHI hps
      clear hat
      obtain ⟨plx, pso, pcn, pbr, psy⟩ := x
      obtain ⟨ap, cp, ⟨e0, e1, e2, e3, e4⟩, hrow⟩ := hx.cells
      have HRW := hide hrow
      clear hx hh hrow
      go_upto_region 6 with fail
      obtain ⟨kp, hkp⟩ : ∃ kp, wr.heap.size = kp := ⟨_, rfl⟩
      obtain ⟨w6, h6⟩ : ∃ w6, wr.alloc (.cells #[.bool plx, .string pso, .string pcn, .bool pbr, .slice ap psy.length cp] 38) = w6 := ⟨_, rfl⟩
      have hb6 := hide (show Below wr.heap.size wr w6 by rw [← h6]; exact NB.alloc (Below.refl _ _) _)
      have HP6 := hide (show Blk w6 kp #[.bool plx, .string pso, .string pcn, .bool pbr, .slice ap psy.length cp] 38 by rw [← h6, ← hkp]; exact Blk.new wr _ _)
      have HB6 := hide (below_next HBR.out hb6.out)
      have HX6 := hide (HXR.out.below hb6.out)
      rw [h6, hkp]
      clear h6 hkp e0 e1 e2 e3 e4 hb x2 xl
      have HBN := hide HB6.out
      have x0 := HX6.out.cell 0
      have x1 := HX6.out.cell 1
      have x2 := HX6.out.cell 2
      have x3 := HX6.out.cell 3
      have x4 := HX6.out.cell 4
      have x5 := HX6.out.cell 5
      have x6 := HX6.out.cell 6
      have xl := HX6.out.lt
      have p0 := HP6.out.cell 0
      have p1 := HP6.out.cell 1
      have p2 := HP6.out.cell 2
      have p3 := HP6.out.cell 3
      have p4 := HP6.out.cell 4
      have pl := HP6.out.lt
      cases hq : kindB d ⟨plx, pso, pcn, pbr, psy⟩ with
      | false =>
        have HN := hide (HNX.out hq)
        have HC := hide (rkind_any d (some ⟨b, o, none⟩) c2 a3 c3 a4 c4 a5 c5 a6 c6 ⟨plx, pso, pcn, pbr, psy⟩ ap cp w6 (HD.out.below HB6.out) (HRW.out.below SyAt.stable hb6.out) hps)
        rw [hq] at HC
        clear hq
        go_wp2_with fail
        refine HC.out.mono ?_
        rintro e w7 ⟨rfl, hb7⟩
        have HBN := hide (below_next HB6.out hb7)
        replace p1 := (HP6.out.below hb7).cell 1
        replace pl := (HP6.out.below hb7).lt
        clear x0 x1 x2 x3 x4 x5 x6 xl p0 p2 p3 p4
        go_wp2_with fail
        go_roundg (d.prods.length - (k + 1))
        case measure => rw [hu.out]; omega
        case rel => exact ⟨k + 1, hide rfl, by go_num, hide ⟨hlt, HBN.out, HN.out⟩⟩
      | true =>
        have HF := hide (HHI.out hq)
        have HC := hide (rkind_any d (some ⟨b, o, none⟩) c2 a3 c3 a4 c4 a5 c5 a6 c6 ⟨plx, pso, pcn, pbr, psy⟩ ap cp w6 (HD.out.below HB6.out) (HRW.out.below SyAt.stable hb6.out) hps)
        rw [hq] at HC
        clear hq
        go_wp2_with fail
        refine HC.out.mono ?_
        rintro e w7 ⟨rfl, hb7⟩
        have HBN := hide (below_next HB6.out hb7)
        replace p1 := (HP6.out.below hb7).cell 1
        replace pl := (HP6.out.below hb7).lt
        clear x0 x1 x2 x3 x4 x5 x6 xl p0 p2 p3 p4
        go_wp2_with fail
        go_ret2
        exact ⟨by rw [HF.out]; rfl, below_next HB0.out HBN.out⟩
    · have hlti : ¬ (k : Int) < (d.prods.length : Int) := by omega
      have HF := hide (show res = toldV okL by rw [← HRES.out, firstG_miss 44 _ _ d.prods (fun j h => hh.out.2.2 j h (by omega))])
      have HBN := hide hh.out.2.1
      go_wp2_with fail
      go_ret2
      exact ⟨by rw [HF.out]; rfl, below_next HB0.out HBN.out⟩
set_option maxHeartbeats 800000 in
set_option maxRecDepth 100000 in
theorem prods7_any (d : Df) (a2 : Option Addr) (c2 : Nat) (a3 : Option Addr) (c3 : Nat) (a4 : Option Addr) (c4 : Nat) (a5 : Option Addr) (c5 : Nat) (a6 : Option Addr) (c6 : Nat) (w : World) (hd : RD d ⟨a2, c2, a3, c3, a4, c4, a5, c5, a6, c6⟩ w) (hs : ∀ p ∈ d.prods, p.syms.length ≤ 10000) : Calls Try.prog 78 #[.agg #[.string d.start, .string d.layout, .slice a2 d.prods.length c2, .slice a3 d.chains.length c3, .slice a4 d.follows.length c4, .slice a5 d.rejects.length c5, .slice a6 d.boxes.length c6], .int .i64 7] w fun e w' => e = .returned (toldV (firstG 46 (bracketB) Pd.sort d.prods)) ∧ Below w.heap.size w w' := by
  have HSL := hide hs
  have hpl := hd.p.1
  clear hs
  have HD := hide hd
  obtain ⟨res, hres⟩ : ∃ r, toldV (firstG 46 (bracketB) Pd.sort d.prods) = r := ⟨_, rfl⟩
  rw [hres]
  have HRES := hide hres
  clear hres hd
  go_enter Try.func78, Try.ntmps78
  go_upto_region 1 with fail
  obtain ⟨kx, hkx⟩ : ∃ kx, w.heap.size = kx := ⟨_, rfl⟩
  obtain ⟨w1, h1⟩ : ∃ w1, w.alloc (.cells #[.string d.start, .string d.layout, .slice a2 d.prods.length c2, .slice a3 d.chains.length c3, .slice a4 d.follows.length c4, .slice a5 d.rejects.length c5, .slice a6 d.boxes.length c6] 28) = w1 := ⟨_, rfl⟩
  have HB0 := hide (show Below w.heap.size w w1 by rw [← h1]; exact NB.alloc (Below.refl _ _) _)
  have HX0 := hide (show Blk w1 kx #[.string d.start, .string d.layout, .slice a2 d.prods.length c2, .slice a3 d.chains.length c3, .slice a4 d.follows.length c4, .slice a5 d.rejects.length c5, .slice a6 d.boxes.length c6] 28 by rw [← h1, ← hkx]; exact Blk.new w _ _)
  replace HD := hide (HD.out.below HB0.out)
  rw [h1, hkx]
  clear h1 hkx
  go_wp2_with fail
  go_loopg [6] d.prods.length (fun u v6 wr => ∃ k : Nat, Hid (u = d.prods.length - k) ∧ v6 = .int .i64 (k : Int) ∧ Hid (k ≤ d.prods.length ∧ Below w1.heap.size w1 wr ∧ ∀ j (h : j < d.prods.length), j < k → (bracketB) d.prods[j] = false))
  case atStart => exact ⟨0, hide rfl, rfl, hide ⟨Nat.zero_le _, Below.refl _ _, fun _ _ h => absurd h (Nat.not_lt_zero _)⟩⟩
  case round =>
    obtain ⟨k, hu, rfl, hh⟩ := hrel
    have hkl := hh.out.1
    have HXR := hide (HX0.out.below hh.out.2.1)
    have HBR := hide hh.out.2.1
    have x2 := HXR.out.cell 2
    have xl := HXR.out.lt
    by_cases hlt : k < d.prods.length
    · have hlti : (k : Int) < (d.prods.length : Int) := by omega
      obtain ⟨b, o, rfl, hb, hat⟩ := (HD.out.below hh.out.2.1).p.get hlt
      have hx := hat k hlt
      have HNX := hide (fun (hf : (bracketB) d.prods[k] = false) => (show ∀ j (h : j < d.prods.length), j < k + 1 → (bracketB) d.prods[j] = false from fun j h hj => by
        by_cases e : j = k
        · subst e; exact hf
        · exact hh.out.2.2 j h (by omega)))
      have HHI := hide (fun (ht : (bracketB) d.prods[k] = true) => (show res = toldV (46, (d.prods[k]).sort) by
        rw [← HRES.out, firstG_hit 46 _ _ d.prods k hlt hh.out.2.2 ht]))
      have hps := HSL.out _ (List.getElem_mem hlt)
      generalize d.prods[k] = x at hx HNX HHI hps
      clear hat
      obtain ⟨plx, pso, pcn, pbr, psy⟩ := x
      obtain ⟨ap, cp, ⟨e0, e1, e2, e3, e4⟩, hrow⟩ := hx.cells
      have HRW := hide hrow
      clear hx hh hrow
      go_upto_region 6 with fail
      obtain ⟨kp, hkp⟩ : ∃ kp, wr.heap.size = kp := ⟨_, rfl⟩
      obtain ⟨w6, h6⟩ : ∃ w6, wr.alloc (.cells #[.bool plx, .string pso, .string pcn, .bool pbr, .slice ap psy.length cp] 38) = w6 := ⟨_, rfl⟩
      have hb6 := hide (show Below wr.heap.size wr w6 by rw [← h6]; exact NB.alloc (Below.refl _ _) _)
      have HP6 := hide (show Blk w6 kp #[.bool plx, .string pso, .string pcn, .bool pbr, .slice ap psy.length cp] 38 by rw [← h6, ← hkp]; exact Blk.new wr _ _)
      have HB6 := hide (below_next HBR.out hb6.out)
      have HX6 := hide (HXR.out.below hb6.out)
      rw [h6, hkp]
      clear h6 hkp e0 e1 e2 e3 e4 hb x2 xl
      have HBN := hide HB6.out
      have x0 := HX6.out.cell 0
      have x1 := HX6.out.cell 1
      have x2 := HX6.out.cell 2
      have x3 := HX6.out.cell 3
      have x4 := HX6.out.cell 4
      have x5 := HX6.out.cell 5
      have x6 := HX6.out.cell 6
      have xl := HX6.out.lt
      have p0 := HP6.out.cell 0
      have p1 := HP6.out.cell 1
      have p2 := HP6.out.cell 2
      have p3 := HP6.out.cell 3
      have p4 := HP6.out.cell 4
      have pl := HP6.out.lt
      cases hq : bracketB ⟨plx, pso, pcn, pbr, psy⟩ with
      | false =>
        have HN := hide (HNX.out hq)
        have HC := hide (rbracket_any ⟨plx, pso, pcn, pbr, psy⟩ ap cp w6 (HRW.out.below SyAt.stable hb6.out) hps)
        rw [hq] at HC
        clear hq
        go_wp2_with fail
        refine HC.out.mono ?_
        rintro e w7 ⟨rfl, hb7⟩
        have HBN := hide (below_next HB6.out hb7)
        replace p1 := (HP6.out.below hb7).cell 1
        replace pl := (HP6.out.below hb7).lt
        clear x0 x1 x2 x3 x4 x5 x6 xl p0 p2 p3 p4
        go_wp2_with fail
        go_roundg (d.prods.length - (k + 1))
        case measure => rw [hu.out]; omega
        case rel => exact ⟨k + 1, hide rfl, by go_num, hide ⟨hlt, HBN.out, HN.out⟩⟩
      | true =>
        have HF := hide (HHI.out hq)
        have HC := hide (rbracket_any ⟨plx, pso, pcn, pbr, psy⟩ ap cp w6 (HRW.out.below SyAt.stable hb6.out) hps)
        rw [hq] at HC
        clear hq
        go_wp2_with fail
        refine HC.out.mono ?_
        rintro e w7 ⟨rfl, hb7⟩
        have HBN := hide (below_next HB6.out hb7)
        replace p1 := (HP6.out.below hb7).cell 1
        replace pl := (HP6.out.below hb7).lt
        clear x0 x1 x2 x3 x4 x5 x6 xl p0 p2 p3 p4
        go_wp2_with fail
        go_ret2
        exact ⟨by rw [HF.out]; rfl, below_next HB0.out HBN.out⟩
    · have hlti : ¬ (k : Int) < (d.prods.length : Int) := by omega
      have HF := hide (show res = toldV okL by rw [← HRES.out, firstG_miss 46 _ _ d.prods (fun j h => hh.out.2.2 j h (by omega))])
      have HBN := hide hh.out.2.1
      go_wp2_with fail
      go_ret2
      exact ⟨by rw [HF.out]; rfl, below_next HB0.out HBN.out⟩
set_option maxHeartbeats 800000 in
set_option maxRecDepth 100000 in
theorem prods9_any (d : Df) (a2 : Option Addr) (c2 : Nat) (a3 : Option Addr) (c3 : Nat) (a4 : Option Addr) (c4 : Nat) (a5 : Option Addr) (c5 : Nat) (a6 : Option Addr) (c6 : Nat) (w : World) (hd : RD d ⟨a2, c2, a3, c3, a4, c4, a5, c5, a6, c6⟩ w) (hs : ∀ p ∈ d.prods, p.syms.length ≤ 10000) : Calls Try.prog 78 #[.agg #[.string d.start, .string d.layout, .slice a2 d.prods.length c2, .slice a3 d.chains.length c3, .slice a4 d.follows.length c4, .slice a5 d.rejects.length c5, .slice a6 d.boxes.length c6], .int .i64 9] w fun e w' => e = .returned (toldV (firstG 47 (nullB) Pd.sort d.prods)) ∧ Below w.heap.size w w' := by
  have HSL := hide hs
  have hpl := hd.p.1
  clear hs
  have HD := hide hd
  obtain ⟨res, hres⟩ : ∃ r, toldV (firstG 47 (nullB) Pd.sort d.prods) = r := ⟨_, rfl⟩
  rw [hres]
  have HRES := hide hres
  clear hres hd
  go_enter Try.func78, Try.ntmps78
  go_upto_region 1 with fail
  obtain ⟨kx, hkx⟩ : ∃ kx, w.heap.size = kx := ⟨_, rfl⟩
  obtain ⟨w1, h1⟩ : ∃ w1, w.alloc (.cells #[.string d.start, .string d.layout, .slice a2 d.prods.length c2, .slice a3 d.chains.length c3, .slice a4 d.follows.length c4, .slice a5 d.rejects.length c5, .slice a6 d.boxes.length c6] 28) = w1 := ⟨_, rfl⟩
  have HB0 := hide (show Below w.heap.size w w1 by rw [← h1]; exact NB.alloc (Below.refl _ _) _)
  have HX0 := hide (show Blk w1 kx #[.string d.start, .string d.layout, .slice a2 d.prods.length c2, .slice a3 d.chains.length c3, .slice a4 d.follows.length c4, .slice a5 d.rejects.length c5, .slice a6 d.boxes.length c6] 28 by rw [← h1, ← hkx]; exact Blk.new w _ _)
  replace HD := hide (HD.out.below HB0.out)
  rw [h1, hkx]
  clear h1 hkx
  go_wp2_with fail
  go_loopg [6] d.prods.length (fun u v6 wr => ∃ k : Nat, Hid (u = d.prods.length - k) ∧ v6 = .int .i64 (k : Int) ∧ Hid (k ≤ d.prods.length ∧ Below w1.heap.size w1 wr ∧ ∀ j (h : j < d.prods.length), j < k → (nullB) d.prods[j] = false))
  case atStart => exact ⟨0, hide rfl, rfl, hide ⟨Nat.zero_le _, Below.refl _ _, fun _ _ h => absurd h (Nat.not_lt_zero _)⟩⟩
  case round =>
    obtain ⟨k, hu, rfl, hh⟩ := hrel
    have hkl := hh.out.1
    have HXR := hide (HX0.out.below hh.out.2.1)
    have HBR := hide hh.out.2.1
    have x2 := HXR.out.cell 2
    have xl := HXR.out.lt
    by_cases hlt : k < d.prods.length
    · have hlti : (k : Int) < (d.prods.length : Int) := by omega
      obtain ⟨b, o, rfl, hb, hat⟩ := (HD.out.below hh.out.2.1).p.get hlt
      have hx := hat k hlt
      have HNX := hide (fun (hf : (nullB) d.prods[k] = false) => (show ∀ j (h : j < d.prods.length), j < k + 1 → (nullB) d.prods[j] = false from fun j h hj => by
        by_cases e : j = k
        · subst e; exact hf
        · exact hh.out.2.2 j h (by omega)))
      have HHI := hide (fun (ht : (nullB) d.prods[k] = true) => (show res = toldV (47, (d.prods[k]).sort) by
        rw [← HRES.out, firstG_hit 47 _ _ d.prods k hlt hh.out.2.2 ht]))
      have hps := HSL.out _ (List.getElem_mem hlt)
      generalize d.prods[k] = x at hx HNX HHI hps
      clear hat
      obtain ⟨plx, pso, pcn, pbr, psy⟩ := x
      obtain ⟨ap, cp, ⟨e0, e1, e2, e3, e4⟩, hrow⟩ := hx.cells
      have HRW := hide hrow
      clear hx hh hrow
      go_upto_region 6 with fail
      obtain ⟨kp, hkp⟩ : ∃ kp, wr.heap.size = kp := ⟨_, rfl⟩
      obtain ⟨w6, h6⟩ : ∃ w6, wr.alloc (.cells #[.bool plx, .string pso, .string pcn, .bool pbr, .slice ap psy.length cp] 38) = w6 := ⟨_, rfl⟩
      have hb6 := hide (show Below wr.heap.size wr w6 by rw [← h6]; exact NB.alloc (Below.refl _ _) _)
      have HP6 := hide (show Blk w6 kp #[.bool plx, .string pso, .string pcn, .bool pbr, .slice ap psy.length cp] 38 by rw [← h6, ← hkp]; exact Blk.new wr _ _)
      have HB6 := hide (below_next HBR.out hb6.out)
      have HX6 := hide (HXR.out.below hb6.out)
      rw [h6, hkp]
      clear h6 hkp e0 e1 e2 e3 e4 hb x2 xl
      have HBN := hide HB6.out
      have x0 := HX6.out.cell 0
      have x1 := HX6.out.cell 1
      have x2 := HX6.out.cell 2
      have x3 := HX6.out.cell 3
      have x4 := HX6.out.cell 4
      have x5 := HX6.out.cell 5
      have x6 := HX6.out.cell 6
      have xl := HX6.out.lt
      have p0 := HP6.out.cell 0
      have p1 := HP6.out.cell 1
      have p2 := HP6.out.cell 2
      have p3 := HP6.out.cell 3
      have p4 := HP6.out.cell 4
      have pl := HP6.out.lt
      cases hq : nullB ⟨plx, pso, pcn, pbr, psy⟩ with
      | false =>
        have HN := hide (HNX.out hq)
        have HC := hide (rnull_any ⟨plx, pso, pcn, pbr, psy⟩ ap cp w6 (HRW.out.below SyAt.stable hb6.out) hps)
        rw [hq] at HC
        clear hq
        go_wp2_with fail
        refine HC.out.mono ?_
        rintro e w7 ⟨rfl, hb7⟩
        have HBN := hide (below_next HB6.out hb7)
        replace p1 := (HP6.out.below hb7).cell 1
        replace pl := (HP6.out.below hb7).lt
        clear x0 x1 x2 x3 x4 x5 x6 xl p0 p2 p3 p4
        go_wp2_with fail
        go_roundg (d.prods.length - (k + 1))
        case measure => rw [hu.out]; omega
        case rel => exact ⟨k + 1, hide rfl, by go_num, hide ⟨hlt, HBN.out, HN.out⟩⟩
      | true =>
        have HF := hide (HHI.out hq)
        have HC := hide (rnull_any ⟨plx, pso, pcn, pbr, psy⟩ ap cp w6 (HRW.out.below SyAt.stable hb6.out) hps)
        rw [hq] at HC
        clear hq
        go_wp2_with fail
        refine HC.out.mono ?_
        rintro e w7 ⟨rfl, hb7⟩
        have HBN := hide (below_next HB6.out hb7)
        replace p1 := (HP6.out.below hb7).cell 1
        replace pl := (HP6.out.below hb7).lt
        clear x0 x1 x2 x3 x4 x5 x6 xl p0 p2 p3 p4
        go_wp2_with fail
        go_ret2
        exact ⟨by rw [HF.out]; rfl, below_next HB0.out HBN.out⟩
    · have hlti : ¬ (k : Int) < (d.prods.length : Int) := by omega
      have HF := hide (show res = toldV okL by rw [← HRES.out, firstG_miss 47 _ _ d.prods (fun j h => hh.out.2.2 j h (by omega))])
      have HBN := hide hh.out.2.1
      go_wp2_with fail
      go_ret2
      exact ⟨by rw [HF.out]; rfl, below_next HB0.out HBN.out⟩
set_option maxHeartbeats 800000 in
set_option maxRecDepth 100000 in
theorem prods8_any (d : Df) (a2 : Option Addr) (c2 : Nat) (a3 : Option Addr) (c3 : Nat) (a4 : Option Addr) (c4 : Nat) (a5 : Option Addr) (c5 : Nat) (a6 : Option Addr) (c6 : Nat) (w : World) (hd : RD d ⟨a2, c2, a3, c3, a4, c4, a5, c5, a6, c6⟩ w) (hs : ∀ p ∈ d.prods, p.syms.length ≤ 10000) : Calls Try.prog 78 #[.agg #[.string d.start, .string d.layout, .slice a2 d.prods.length c2, .slice a3 d.chains.length c3, .slice a4 d.follows.length c4, .slice a5 d.rejects.length c5, .slice a6 d.boxes.length c6], .int .i64 8] w fun e w' => e = .returned (toldV (firstG 2 (longB d) Pd.sort d.prods)) ∧ Below w.heap.size w w' := by
  have HSL := hide hs
  have hpl := hd.p.1
  clear hs
  have HD := hide hd
  obtain ⟨res, hres⟩ : ∃ r, toldV (firstG 2 (longB d) Pd.sort d.prods) = r := ⟨_, rfl⟩
  rw [hres]
  have HRES := hide hres
  clear hres hd
  go_enter Try.func78, Try.ntmps78
  go_upto_region 1 with fail
  obtain ⟨kx, hkx⟩ : ∃ kx, w.heap.size = kx := ⟨_, rfl⟩
  obtain ⟨w1, h1⟩ : ∃ w1, w.alloc (.cells #[.string d.start, .string d.layout, .slice a2 d.prods.length c2, .slice a3 d.chains.length c3, .slice a4 d.follows.length c4, .slice a5 d.rejects.length c5, .slice a6 d.boxes.length c6] 28) = w1 := ⟨_, rfl⟩
  have HB0 := hide (show Below w.heap.size w w1 by rw [← h1]; exact NB.alloc (Below.refl _ _) _)
  have HX0 := hide (show Blk w1 kx #[.string d.start, .string d.layout, .slice a2 d.prods.length c2, .slice a3 d.chains.length c3, .slice a4 d.follows.length c4, .slice a5 d.rejects.length c5, .slice a6 d.boxes.length c6] 28 by rw [← h1, ← hkx]; exact Blk.new w _ _)
  replace HD := hide (HD.out.below HB0.out)
  rw [h1, hkx]
  clear h1 hkx
  go_wp2_with fail
  go_loopg [6] d.prods.length (fun u v6 wr => ∃ k : Nat, Hid (u = d.prods.length - k) ∧ v6 = .int .i64 (k : Int) ∧ Hid (k ≤ d.prods.length ∧ Below w1.heap.size w1 wr ∧ ∀ j (h : j < d.prods.length), j < k → (longB d) d.prods[j] = false))
  case atStart => exact ⟨0, hide rfl, rfl, hide ⟨Nat.zero_le _, Below.refl _ _, fun _ _ h => absurd h (Nat.not_lt_zero _)⟩⟩
  case round =>
    obtain ⟨k, hu, rfl, hh⟩ := hrel
    have hkl := hh.out.1
    have HXR := hide (HX0.out.below hh.out.2.1)
    have HBR := hide hh.out.2.1
    have x2 := HXR.out.cell 2
    have xl := HXR.out.lt
    by_cases hlt : k < d.prods.length
    · have hlti : (k : Int) < (d.prods.length : Int) := by omega
      obtain ⟨b, o, rfl, hb, hat⟩ := (HD.out.below hh.out.2.1).p.get hlt
      have hx := hat k hlt
      have HNX := hide (fun (hf : (longB d) d.prods[k] = false) => (show ∀ j (h : j < d.prods.length), j < k + 1 → (longB d) d.prods[j] = false from fun j h hj => by
        by_cases e : j = k
        · subst e; exact hf
        · exact hh.out.2.2 j h (by omega)))
      have HHI := hide (fun (ht : (longB d) d.prods[k] = true) => (show res = toldV (2, (d.prods[k]).sort) by
        rw [← HRES.out, firstG_hit 2 _ _ d.prods k hlt hh.out.2.2 ht]))
      have hps := HSL.out _ (List.getElem_mem hlt)
      generalize d.prods[k] = x at hx HNX HHI hps
      clear hat
      obtain ⟨plx, pso, pcn, pbr, psy⟩ := x
      obtain ⟨ap, cp, ⟨e0, e1, e2, e3, e4⟩, hrow⟩ := hx.cells
      have HRW := hide hrow
      clear hx hh hrow
      go_upto_region 6 with fail
      obtain ⟨kp, hkp⟩ : ∃ kp, wr.heap.size = kp := ⟨_, rfl⟩
      obtain ⟨w6, h6⟩ : ∃ w6, wr.alloc (.cells #[.bool plx, .string pso, .string pcn, .bool pbr, .slice ap psy.length cp] 38) = w6 := ⟨_, rfl⟩
      have hb6 := hide (show Below wr.heap.size wr w6 by rw [← h6]; exact NB.alloc (Below.refl _ _) _)
      have HP6 := hide (show Blk w6 kp #[.bool plx, .string pso, .string pcn, .bool pbr, .slice ap psy.length cp] 38 by rw [← h6, ← hkp]; exact Blk.new wr _ _)
      have HB6 := hide (below_next HBR.out hb6.out)
      have HX6 := hide (HXR.out.below hb6.out)
      rw [h6, hkp]
      clear h6 hkp e0 e1 e2 e3 e4 hb x2 xl
      have HBN := hide HB6.out
      have x0 := HX6.out.cell 0
      have x1 := HX6.out.cell 1
      have x2 := HX6.out.cell 2
      have x3 := HX6.out.cell 3
      have x4 := HX6.out.cell 4
      have x5 := HX6.out.cell 5
      have x6 := HX6.out.cell 6
      have xl := HX6.out.lt
      have p0 := HP6.out.cell 0
      have p1 := HP6.out.cell 1
      have p2 := HP6.out.cell 2
      have p3 := HP6.out.cell 3
      have p4 := HP6.out.cell 4
      have pl := HP6.out.lt
      have HO := hide (omitted_any ⟨plx, pso, pcn, pbr, psy⟩ ap cp w6 (HRW.out.below SyAt.stable hb6.out) hps)
      obtain ⟨on, hon⟩ : ∃ on, leftN psy = on := ⟨_, rfl⟩
      have hon2 : on ≤ 10000 := by have h := leftN_le psy; rw [hon] at h; exact Nat.le_trans h hps
      have HLB := hide (show longB d ⟨plx, pso, pcn, pbr, psy⟩ = (decide (4 < on) || decide (80 < sizL d plx psy)) by rw [longB_size]; show (decide (4 < leftN psy) || _) = _; rw [hon])
      replace HO := hide (show Calls Try.prog 95 #[.agg #[.bool plx, .string pso, .string pcn, .bool pbr, .slice ap psy.length cp]] w6 (fun e w' => e = .returned (.int .i64 (on : Int)) ∧ Below w6.heap.size w6 w') by rw [← hon]; exact HO.out)
      clear hon
      go_wp2_with fail
      refine HO.out.mono ?_
      rintro e w7 ⟨rfl, hb7⟩
      replace HBN := hide (below_next HB6.out hb7)
      have HP7 := hide (HP6.out.below hb7)
      replace p0 := HP7.out.cell 0
      replace p1 := HP7.out.cell 1
      replace p2 := HP7.out.cell 2
      replace p3 := HP7.out.cell 3
      replace p4 := HP7.out.cell 4
      replace pl := HP7.out.lt
      have HX7 := hide (HX6.out.below hb7)
      clear x0 x1 x2 x3 x4 x5 x6 xl
      have x0 := HX7.out.cell 0
      have x1 := HX7.out.cell 1
      have x2 := HX7.out.cell 2
      have x3 := HX7.out.cell 3
      have x4 := HX7.out.cell 4
      have x5 := HX7.out.cell 5
      have x6 := HX7.out.cell 6
      have xl := HX7.out.lt
      by_cases h4 : 4 < on
      · have d4 : decide ((on : Int) > 4) = true := decide_eq_true (by omega)
        have HF := hide (HHI.out (by rw [HLB.out, decide_eq_true h4]; rfl))
        clear h4
        go_wp2_with fail
        go_ret2
        exact ⟨by rw [HF.out]; rfl, below_next HB0.out HBN.out⟩
      · have d4 : decide ((on : Int) > 4) = false := decide_eq_false (by omega)
        have HO4 := hide h4
        clear h4
        have HZ := hide (size_any d (some ⟨b, o, none⟩) c2 a3 c3 a4 c4 a5 c5 a6 c6 ⟨plx, pso, pcn, pbr, psy⟩ ap cp w7 (HD.out.below HBN.out) (HRW.out.below SyAt.stable (below_next hb6.out hb7)) hps)
        go_wp2_with fail
        refine HZ.out.mono ?_
        rintro e w8 ⟨rfl, hb8⟩
        replace HBN := hide (below_next HBN.out hb8)
        replace p1 := (HP7.out.below hb8).cell 1
        replace pl := (HP7.out.below hb8).lt
        clear x0 x1 x2 x3 x4 x5 x6 xl p0 p2 p3 p4
        obtain ⟨sz, hsz⟩ : ∃ sz, sizL d plx psy = sz := ⟨_, rfl⟩
        rw [show sizL d (Pd.mk plx pso pcn pbr psy).lex (Pd.mk plx pso pcn pbr psy).syms = sz from hsz]
        by_cases h8 : 80 < sz
        · have d8 : decide (sz > 80) = true := decide_eq_true h8
          have HF := hide (HHI.out (by rw [HLB.out, hsz, decide_eq_true h8]; simp))
          clear h8 hsz
          go_wp2_with fail
          go_ret2
          exact ⟨by rw [HF.out]; rfl, below_next HB0.out HBN.out⟩
        · have d8 : decide (sz > 80) = false := decide_eq_false h8
          have HN := hide (HNX.out (by rw [HLB.out, hsz, decide_eq_false h8, decide_eq_false HO4.out]; rfl))
          clear h8 hsz
          go_wp2_with fail
          go_roundg (d.prods.length - (k + 1))
          case measure => rw [hu.out]; omega
          case rel => exact ⟨k + 1, hide rfl, by go_num, hide ⟨hlt, HBN.out, HN.out⟩⟩
    · have hlti : ¬ (k : Int) < (d.prods.length : Int) := by omega
      have HF := hide (show res = toldV okL by rw [← HRES.out, firstG_miss 2 _ _ d.prods (fun j h => hh.out.2.2 j h (by omega))])
      have HBN := hide hh.out.2.1
      go_wp2_with fail
      go_ret2
      exact ⟨by rw [HF.out]; rfl, below_next HB0.out HBN.out⟩
end Go.Proofs.Ytalicfpcmcbdbaa
