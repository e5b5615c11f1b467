/- The reference: rejects. The reference: Check. -/
import Derived.Test.YtalicfpcmcbdbaaZCkL
import Derived.Test.YtalicfpcmcbdbaaZCkI
import Derived.Test.YtalicfpcmcbdbaaZRgL
import Derived.BigQuiet
import Derived.Test.YtalicfpcmcbdbaaZCkV
import Derived.Test.YtalicfpcmcbdbaaZCkN
import Derived.Test.YtalicfpcmcbdbaaZOkD
import Derived.Test.YtalicfpcmcbdbaaZRSym
set_option linter.unusedVariables false
set_option linter.unusedSimpArgs false
set_option linter.unnecessarySimpa false
set_option linter.deprecated false
namespace Go.Proofs.Ytalicfpcmcbdbaa
open Go.RowKit

set_option maxHeartbeats 3200000 in
set_option maxRecDepth 100000 in
open Classical in
theorem rejects_any (d : Df) (a2 : Option Addr) (c2 : Nat) (a3 : Option Addr) (c3 : Nat) (a4 : Option Addr) (c4 : Nat) (a5 : Option Addr) (c5 : Nat) (a6 : Option Addr) (c6 : Nat) (w : World) (hd : RD d ⟨a2, c2, a3, c3, a4, c4, a5, c5, a6, c6⟩ w) (hall : (d.prods.flatMap namesL).length ≤ 99999) : Calls Try.prog 51 #[.agg #[.string d.start, .string d.layout, .slice a2 d.prods.length c2, .slice a3 d.chains.length c3, .slice a4 d.follows.length c4, .slice a5 d.rejects.length c5, .slice a6 d.boxes.length c6]] w fun e w' => e = .returned (toldV (rejectL d)) ∧ Below w.heap.size w w' := by
  have HALL := hide hall
  have hl5 := hd.j.1
  clear hall
  have HD := hide hd
  obtain ⟨res, hres⟩ : ∃ r, toldV (rejectL d) = r := ⟨_, rfl⟩
  rw [hres]
  have HRES := hide hres
  clear hres hd
  go_enter Try.func51, Try.ntmps51
  go_upto_region 1 with fail
  obtain ⟨kx, hkx⟩ : ∃ kx, w.heap.size = kx := ⟨_, rfl⟩
  obtain ⟨w1, h1⟩ : ∃ w1, w.alloc (.cells #[.string d.start, .string d.layout, .slice a2 d.prods.length c2, .slice a3 d.chains.length c3, .slice a4 d.follows.length c4, .slice a5 d.rejects.length c5, .slice a6 d.boxes.length c6] 28) = w1 := ⟨_, rfl⟩
  have HB0 := hide (show Below w.heap.size w w1 by rw [← h1]; exact NB.alloc (Below.refl _ _) _)
  have HX0 := hide (show Blk w1 kx #[.string d.start, .string d.layout, .slice a2 d.prods.length c2, .slice a3 d.chains.length c3, .slice a4 d.follows.length c4, .slice a5 d.rejects.length c5, .slice a6 d.boxes.length c6] 28 by rw [← h1, ← hkx]; exact Blk.new w _ _)
  replace HD := hide (HD.out.below HB0.out)
  rw [h1, hkx]
  clear h1 hkx
  go_wp2_with fail
  go_loopg [4] d.rejects.length (fun u v4 wr => ∃ k : Nat, Hid (u = d.rejects.length - k) ∧ v4 = .int .i64 (k : Int) ∧ Hid (k ≤ d.rejects.length ∧ Below w1.heap.size w1 wr ∧ ∀ j (h : j < d.rejects.length), j < k → rejHit d (0 + j) d.rejects[j] = false))
  case atStart => exact ⟨0, hide rfl, rfl, hide ⟨Nat.zero_le _, Below.refl _ _, fun _ _ h => absurd h (Nat.not_lt_zero _)⟩⟩
  case round =>
    obtain ⟨k, hu, rfl, hh⟩ := hrel
    have hkl := hh.out.1
    have HXR := hide (HX0.out.below hh.out.2.1)
    have HBR := hide hh.out.2.1
    have x5 := HXR.out.cell 5
    have xl := HXR.out.lt
    by_cases hlt : k < d.rejects.length
    · have hlti : (k : Int) < (d.rejects.length : Int) := by omega
      obtain ⟨b, o, rfl, hb, hat⟩ := (HD.out.below hh.out.2.1).j.get hlt
      have hx := hat k hlt
      have HNX := hide (fun (hf : rejHit d k d.rejects[k] = false) => (show ∀ j (h : j < d.rejects.length), j < k + 1 → rejHit d (0 + j) d.rejects[j] = false from fun j h hj => by
        by_cases e : j = k
        · subst e; rw [Nat.zero_add]; exact hf
        · exact hh.out.2.2 j h (by omega)))
      have HHI := hide (fun (ht : rejHit d k d.rejects[k] = true) => (show res = toldV (49, (d.rejects[k]).sort) by
        rw [← HRES.out]
        unfold rejectL
        rw [firstI_hit 49 _ _ d.rejects 0 k hlt hh.out.2.2 (by rw [Nat.zero_add]; exact ht)]))
      generalize d.rejects[k] = x at hx HNX HHI
      clear hat hh
      obtain ⟨so, by_⟩ := x
      have HEA := hide (fun j (hj : j < d.rejects.length) (hjk : j < k) (he : (d.rejects[j]).sort = so) => HHI.out (by
        unfold rejHit rejA
        rw [show ((d.rejects.take k).any (fun x => decide (x.sort = so))) = true from List.any_eq_true.2 ⟨d.rejects[j], by rw [List.mem_iff_getElem]; exact ⟨j, by rw [List.length_take]; omega, by rw [List.getElem_take]⟩, decide_eq_true he⟩]
        simp))
      have HEX := hide (fun (_ : rejA d ⟨so, by_⟩ k = false) s (h1 : Reach d.prods namesL by_ s) (h2 : s ∈ heldL d) => HHI.out (by
        unfold rejHit
        rw [decide_eq_true (⟨s, h1, h2⟩ : ∃ s, Reach d.prods namesL by_ s ∧ s ∈ heldL d)]
        simp))
      have HSB := hide (show short by_ from hx.1.2)
      obtain ⟨e0, e1⟩ := hx.cells
      clear hx
      go_upto_region 5 with fail
      obtain ⟨kp, hkp⟩ : ∃ kp, wr.heap.size = kp := ⟨_, rfl⟩
      obtain ⟨w6, h6⟩ : ∃ w6, wr.alloc (.cells #[.string so, .string by_] 50) = w6 := ⟨_, rfl⟩
      have hb6 := hide (show Below wr.heap.size wr w6 by rw [← h6]; exact NB.alloc (Below.refl _ _) _)
      have HS6 := hide (show Blk w6 kp #[.string so, .string by_] 50 by rw [← h6, ← hkp]; exact Blk.new wr _ _)
      have HB6 := hide (below_next HBR.out hb6.out)
      rw [h6, hkp]
      clear h6 hkp e0 e1 hb x5 xl
      have s0 := HS6.out.cell 0
      have s1 := HS6.out.cell 1
      have sl := HS6.out.lt
      have x0 := (HX0.out.below HB6.out).cell 0
      have x1 := (HX0.out.below HB6.out).cell 1
      have x2 := (HX0.out.below HB6.out).cell 2
      have x3 := (HX0.out.below HB6.out).cell 3
      have x4 := (HX0.out.below HB6.out).cell 4
      have x5 := (HX0.out.below HB6.out).cell 5
      have x6 := (HX0.out.below HB6.out).cell 6
      have xl := (HX0.out.below HB6.out).lt
      have HI1 := hide (rIsLex_any d a2 c2 a3 c3 a4 c4 (some ⟨b, o, none⟩) c5 a6 c6 so true w6 (HD.out.below HB6.out))
      obtain ⟨b1, hb1⟩ : ∃ b1, isLex d.prods so true = b1 := ⟨_, rfl⟩
      rw [hb1] at HI1
      have HL1 := hide hb1
      clear hb1
      go_wp2_with fail
      refine HI1.out.mono ?_
      rintro e w7 ⟨rfl, hb7⟩
      have HB7 := hide (below_next HB6.out hb7)
      have H67 := hide hb7
      clear x0 x1 x2 x3 x4 x5 x6 xl s0 s1 sl
      have x0 := (HX0.out.below HB7.out).cell 0
      have x1 := (HX0.out.below HB7.out).cell 1
      have x2 := (HX0.out.below HB7.out).cell 2
      have x3 := (HX0.out.below HB7.out).cell 3
      have x4 := (HX0.out.below HB7.out).cell 4
      have x5 := (HX0.out.below HB7.out).cell 5
      have x6 := (HX0.out.below HB7.out).cell 6
      have xl := (HX0.out.below HB7.out).lt
      have s0 := (HS6.out.below H67.out).cell 0
      have s1 := (HS6.out.below H67.out).cell 1
      have sl := (HS6.out.below H67.out).lt
      cases b1 with
      | false =>
        have HBN := hide HB7.out
        have HF := hide (HHI.out (by unfold rejHit rejA rej0; rw [HL1.out]; simp))
        go_wp2_with fail
        go_ret2
        exact ⟨by rw [HF.out]; rfl, below_next HB0.out HBN.out⟩
      | true =>
        have HI2 := hide (rIsLex_any d a2 c2 a3 c3 a4 c4 (some ⟨b, o, none⟩) c5 a6 c6 by_ true w7 (HD.out.below HB7.out))
        obtain ⟨b2, hb2⟩ : ∃ b2, isLex d.prods by_ true = b2 := ⟨_, rfl⟩
        rw [hb2] at HI2
        have HL2 := hide hb2
        clear hb2 hb7
        go_wp2_with fail
        refine HI2.out.mono ?_
        rintro e w8 ⟨rfl, hb8⟩
        have HB8 := hide (below_next HB7.out hb8)
        have H68 := hide (below_next H67.out hb8)
        clear hb8
        clear x0 x1 x2 x3 x4 x5 x6 xl s0 s1 sl
        have x0 := (HX0.out.below HB8.out).cell 0
        have x1 := (HX0.out.below HB8.out).cell 1
        have x2 := (HX0.out.below HB8.out).cell 2
        have x3 := (HX0.out.below HB8.out).cell 3
        have x4 := (HX0.out.below HB8.out).cell 4
        have x5 := (HX0.out.below HB8.out).cell 5
        have x6 := (HX0.out.below HB8.out).cell 6
        have xl := (HX0.out.below HB8.out).lt
        have s0 := (HS6.out.below H68.out).cell 0
        have s1 := (HS6.out.below H68.out).cell 1
        have sl := (HS6.out.below H68.out).lt
        cases b2 with
        | false =>
          have HBN := hide HB8.out
          have HF := hide (HHI.out (by unfold rejHit rejA rej0; rw [HL2.out]; simp))
          go_wp2_with fail
          go_ret2
          exact ⟨by rw [HF.out]; rfl, below_next HB0.out HBN.out⟩
        | true =>
          by_cases he : so = by_
          · have h1 : (so.toList == by_.toList) = true := by rw [he]; simp
            have HBN := hide HB8.out
            have HF := hide (HHI.out (by unfold rejHit rejA rej0; rw [decide_eq_true he]; simp))
            clear he
            go_wp2_with fail
            go_ret2
            exact ⟨by rw [HF.out]; rfl, below_next HB0.out HBN.out⟩
          · have h1 : (so.toList == by_.toList) = false := beq_eq_false_iff_ne.2 (fun h => he ((toList_eq_iff _ _).1 h))
            have HSE := hide he
            clear he
            have HHE := hide (held_any d a2 c2 a3 c3 a4 c4 (some ⟨b, o, none⟩) c5 a6 c6 by_ w8 (HD.out.below HB8.out))
            obtain ⟨b3, hb3⟩ : ∃ b3, inB by_ (heldL d) = b3 := ⟨_, rfl⟩
            rw [hb3] at HHE
            have HH0 := hide hb3
            clear hb3
            go_wp2_with fail
            refine HHE.out.mono ?_
            rintro e w9 ⟨rfl, hb9⟩
            have HB9 := hide (below_next HB8.out hb9)
            have H69 := hide (below_next H68.out hb9)
            clear hb9 h1
            clear x0 x1 x2 x3 x4 x5 x6 xl s0 s1 sl
            cases b3 with
            | true =>
              have HBN := hide HB9.out
              have s0 := (HS6.out.below H69.out).cell 0
              have s1 := (HS6.out.below H69.out).cell 1
              have sl := (HS6.out.below H69.out).lt
              have HF := hide (HHI.out (by unfold rejHit rejA rej0; rw [HH0.out]; simp))
              go_wp2_with fail
              go_ret2
              exact ⟨by rw [HF.out]; rfl, below_next HB0.out HBN.out⟩
            | false =>
              have HR0 := hide (show rej0 d ⟨so, by_⟩ = false by unfold rej0; rw [HL1.out, HL2.out, decide_eq_false HSE.out, HH0.out]; rfl)
              have HBN := hide HB9.out
              have H6 := hide H69.out
              clear HI1 HI2 HHE HB7 HB8 H67 H68 HB9 H69
              have HBO := hide HBN.out
              clear HBN
              have x5 := (HX0.out.below HBO.out).cell 5
              have xl := (HX0.out.below HBO.out).lt
              have s0 := (HS6.out.below H6.out).cell 0
              have sl := (HS6.out.below H6.out).lt
              go_wp2_with fail
              obtain ⟨wo, rfl⟩ : ∃ wo : World, wo = w9 := ⟨_, rfl⟩
              go_loopg [6] k (fun u v6 wr => ∃ j : Nat, Hid (u = k - j) ∧ v6 = .int .i64 (j : Int) ∧ Hid (j ≤ k ∧ Below wo.heap.size wo wr ∧ (∀ i (h : i < d.rejects.length), i < j → (d.rejects[i]).sort ≠ so)))
              case atStart => exact ⟨0, hide rfl, rfl, hide ⟨Nat.zero_le _, Below.refl _ _, fun _ _ h => absurd h (Nat.not_lt_zero _)⟩⟩
              case round =>
                obtain ⟨j, hv, rfl, hq⟩ := hrel
                have hjl := hq.out.1
                have HBQ := hide (below_next HBO.out hq.out.2.1)
                have H6Q := hide (below_next H6.out hq.out.2.1)
                clear x5 xl s0 sl
                have x5 := (HX0.out.below HBQ.out).cell 5
                have xl := (HX0.out.below HBQ.out).lt
                have s0 := (HS6.out.below H6Q.out).cell 0
                have sl := (HS6.out.below H6Q.out).lt
                by_cases hltj : j < k
                · have hltji : (j : Int) < (k : Int) := by omega
                  have hltjr : (j : Int) < (d.rejects.length : Int) := by omega
                  have hjr : j < d.rejects.length := by omega
                  have hat2 := (HD.out.j.below RjAt.stable HBQ.out).2 (by intro h; rw [h] at hjr; simp at hjr)
                  obtain ⟨b2, o2, hbo, hb2, hat2⟩ := hat2
                  injection hbo with hbo
                  injection hbo with hbo1 hbo2
                  subst hbo1 hbo2
                  have hx2 := hat2 j hjr
                  have HN2 := hide (fun (hf : (d.rejects[j]).sort ≠ so) => (show ∀ i (h : i < d.rejects.length), i < j + 1 → (d.rejects[i]).sort ≠ so from fun i h hi => by
                    by_cases e : i = j
                    · subst e; exact hf
                    · exact hq.out.2.2 i h (by omega)))
                  have HH2 := hide (fun (ht : (d.rejects[j]).sort = so) => HEA.out j hjr hltj ht)
                  have HBQ2 := hide hq.out.2.1
                  generalize d.rejects[j] = y at hx2 HN2 HH2
                  clear hat2 hq
                  obtain ⟨so2, by2⟩ := y
                  obtain ⟨f0, f1⟩ := hx2.cells
                  clear hx2 f1
                  by_cases he : so2 = so
                  · have h1 : (so2.toList == so.toList) = true := by rw [he]; simp
                    have HF := hide (HH2.out he)
                    clear he
                    go_upto_region 10 with fail
                    go_quiet (fail)
                    obtain ⟨wz, hwz⟩ : ∃ wz, wr.drewN nq = wz := ⟨_, rfl⟩
                    have hbz : Below wr.heap.size wr wz := by rw [← hwz]; exact ⟨rfl, rfl, rfl, Nat.le_refl _, fun _ _ => rfl⟩
                    rw [hwz]
                    clear hwz
                    replace s0 := (HS6.out.below (below_next H6Q.out hbz)).cell 0
                    replace sl := (HS6.out.below (below_next H6Q.out hbz)).lt
                    have HBN := hide (below_next HBQ.out hbz)
                    clear x5 xl f0 hb2
                    go_wp2_with fail
                    go_ret2
                    exact ⟨by rw [HF.out]; rfl, below_next HB0.out HBN.out⟩
                  · have h1 : (so2.toList == so.toList) = false := beq_eq_false_iff_ne.2 (fun h => he ((toList_eq_iff _ _).1 h))
                    have HN := hide (HN2.out he)
                    clear he
                    go_upto_region 10 with fail
                    go_quiet (fail)
                    go_wp2_with fail
                    go_roundg (k - (j + 1))
                    case measure => rw [hv.out]; omega
                    case rel => exact ⟨j + 1, hide rfl, by go_num, hide ⟨hltj, HBQ2.out.trans ⟨rfl, rfl, rfl, Nat.le_refl _, fun _ _ => rfl⟩, HN.out⟩⟩
                · have hltji : ¬ (j : Int) < (k : Int) := by omega
                  have HNA := hide (show (d.rejects.take k).any (fun x => decide (x.sort = so)) = false by
                    rw [Bool.eq_false_iff]
                    intro h
                    obtain ⟨x, hx, he⟩ := List.any_eq_true.1 h
                    obtain ⟨i, hi, rfl⟩ := List.mem_iff_getElem.1 hx
                    rw [List.length_take] at hi
                    rw [List.getElem_take] at he
                    exact hq.out.2.2 i (by omega) (by omega) (of_decide_eq_true he))
                  have HRB := hide (show rejA d ⟨so, by_⟩ k = false by unfold rejA; rw [HR0.out, HNA.out]; rfl)
                  clear hq hltj hjl hv HNA HEA x5 xl s0 sl
                  have s0 := (HS6.out.below H6Q.out).cell 0
                  have s1 := (HS6.out.below H6Q.out).cell 1
                  have sl := (HS6.out.below H6Q.out).lt
                  have x0 := (HX0.out.below HBQ.out).cell 0
                  have x1 := (HX0.out.below HBQ.out).cell 1
                  have x2 := (HX0.out.below HBQ.out).cell 2
                  have x3 := (HX0.out.below HBQ.out).cell 3
                  have x4 := (HX0.out.below HBQ.out).cell 4
                  have x5 := (HX0.out.below HBQ.out).cell 5
                  have x6 := (HX0.out.below HBQ.out).cell 6
                  have xl := (HX0.out.below HBQ.out).lt
                  have HFN := hide (farN_any d a2 c2 a3 c3 a4 c4 (some ⟨b, o, none⟩) c5 a6 c6 by_ wr (HD.out.below HBQ.out) HSB.out HALL.out)
                  go_wp2_with fail
                  refine HFN.out.mono ?_
                  rintro e w7 ⟨v7, met, rfl, ho7, hm7, hl7, hb7⟩
                  have HB7 := hide (below_next HBQ.out hb7)
                  have H67 := hide (below_next H6Q.out hb7)
                  obtain ⟨a7, c7, rfl, hr7⟩ := ho7.row (by omega)
                  have HR7 := hide hr7
                  have HM7 := hide hm7
                  have hlm := hl7
                  clear x0 x1 x2 x3 x4 x5 x6 xl s0 s1 sl ho7 hm7 hb7 hr7 HFN
                  go_wp2_with fail
                  obtain ⟨wp, rfl⟩ : ∃ wp : World, wp = w7 := ⟨_, rfl⟩
                  go_loopg [8] met.length (fun u v8 wr => ∃ j : Nat, Hid (u = met.length - j) ∧ v8 = .int .i64 (j : Int) ∧ Hid (j ≤ met.length ∧ Below wp.heap.size wp wr ∧ (∀ i (h : i < met.length), i < j → inB met[i] (heldL d) = false)))
                  case atStart => exact ⟨0, hide rfl, rfl, hide ⟨Nat.zero_le _, Below.refl _ _, fun _ _ h => absurd h (Nat.not_lt_zero _)⟩⟩
                  case round =>
                    obtain ⟨j, hv, rfl, hq⟩ := hrel
                    have hjl := hq.out.1
                    have HBQ := hide (below_next HB7.out hq.out.2.1)
                    have H6Q := hide (below_next H67.out hq.out.2.1)
                    by_cases hltj : j < met.length
                    · have hltji : (j : Int) < (met.length : Int) := by omega
                      have hj0 : (0 : Int) ≤ (j : Int) := by omega
                      obtain ⟨b2, o2, rfl, hb2, hat2⟩ := (HR7.out.below StrAt.stable hq.out.2.1).get hltj
                      have hx2 := hat2 j hltj
                      rw [Nat.mul_one] at hx2
                      have HN2 := hide (fun (hf : inB met[j] (heldL d) = false) => (show ∀ i (h : i < met.length), i < j + 1 → inB met[i] (heldL d) = false from fun i h hi => by
                        by_cases e : i = j
                        · subst e; exact hf
                        · exact hq.out.2.2 i h (by omega)))
                      have HH2 := hide (fun (ht : inB met[j] (heldL d) = true) => HEX.out HRB.out met[j] ((HM7.out _).1 (List.getElem_mem hltj)) ((inB_iff _ _).1 ht))
                      have HBQ2 := hide hq.out.2.1
                      generalize met[j] = n at hx2 HN2 HH2
                      have f0 := hx2.2
                      clear hat2 hx2 hq
                      have x0 := (HX0.out.below HBQ.out).cell 0
                      have x1 := (HX0.out.below HBQ.out).cell 1
                      have x2 := (HX0.out.below HBQ.out).cell 2
                      have x3 := (HX0.out.below HBQ.out).cell 3
                      have x4 := (HX0.out.below HBQ.out).cell 4
                      have x5 := (HX0.out.below HBQ.out).cell 5
                      have x6 := (HX0.out.below HBQ.out).cell 6
                      have xl := (HX0.out.below HBQ.out).lt
                      have HHE := hide (held_any d a2 c2 a3 c3 a4 c4 (some ⟨b, o, none⟩) c5 a6 c6 n wr.drew (HD.out.below (HBQ.out.drew)))
                      go_upto_region 16 with fail
                      refine wp_region_lex 5 [(0, true), (1, true), (2, true), (3, true), (4, true)] (fun W => (W.cell? ⟨kx, 0, none⟩ = some (.string d.start) ∧ W.cell? ⟨kx, 1, none⟩ = some (.string d.layout) ∧ W.cell? ⟨kx, 2, none⟩ = some (.slice a2 d.prods.length c2) ∧ W.cell? ⟨kx, 3, none⟩ = some (.slice a3 d.chains.length c3) ∧ W.cell? ⟨kx, 4, none⟩ = some (.slice a4 d.follows.length c4) ∧ W.cell? ⟨kx, 5, none⟩ = some (.slice (some ⟨b, o, none⟩) d.rejects.length c5) ∧ W.cell? ⟨kx, 6, none⟩ = some (.slice a6 d.boxes.length c6) ∧ kx < W.heap.size ∧ W.cell? ⟨b2, o2 + j, none⟩ = some (.string n) ∧ b2 < W.heap.size)) rfl (by kernel_rfl) (by kernel_rfl) (fun _ _ d _ _ h => by cases d <;> exact h) ⟨x0, x1, x2, x3, x4, x5, x6, xl, f0, hb2⟩ (fun hS0 => ?_)
                      simp only [lexOps, List.filterMap_cons, List.filterMap_nil, List.getElem?_cons_zero, List.getElem?_cons_succ, Option.map_some, List.drop_succ_cons, List.drop_zero]
                      repeat
                        refine wpLex_take (v := ?_) (by rfl) ?_ ?_
                        rotate_left
                        · intro w hSw
                          (try dsimp only at hSw)
                          go_simp
                          try with_reducible rfl
                        try simp only [Act.put, List.setIfInBounds_toArray, List.set_cons_zero, List.set_cons_succ]
                      refine wpLex_nil ?_
                      cases hn : inB n (heldL d) with
                      | true =>
                        rw [hn] at HHE
                        have HF := hide (HH2.out hn)
                        clear hn hS0
                        go_wp2_with fail
                        refine HHE.out.mono ?_
                        rintro e w8 ⟨rfl, hb8⟩
                        have hbz := below_next (Below.refl wr.heap.size wr).drew hb8
                        have s0 := (HS6.out.below (below_next H6Q.out hbz)).cell 0
                        have sl := (HS6.out.below (below_next H6Q.out hbz)).lt
                        have HBN := hide (below_next HBQ.out hbz)
                        clear x0 x1 x2 x3 x4 x5 x6 xl f0 hb2 hb8 hbz
                        go_wp2_with fail
                        go_ret2
                        exact ⟨by rw [HF.out]; rfl, below_next HB0.out HBN.out⟩
                      | false =>
                        rw [hn] at HHE
                        have HN := hide (HN2.out hn)
                        clear hn hS0
                        go_wp2_with fail
                        refine HHE.out.mono ?_
                        rintro e w8 ⟨rfl, hb8⟩
                        have hbz := below_next (Below.refl wr.heap.size wr).drew hb8
                        have HBZ := hide (below_next HBQ2.out hbz)
                        clear x0 x1 x2 x3 x4 x5 x6 xl f0 hb2 hb8 hbz
                        go_wp2_with fail
                        go_roundg (met.length - (j + 1))
                        case measure => rw [hv.out]; omega
                        case rel => exact ⟨j + 1, hide rfl, by go_num, hide ⟨hltj, HBZ.out, HN.out⟩⟩
                    · have hltji : ¬ (j : Int) < (met.length : Int) := by omega
                      have HN := hide (HNX.out (by
                        unfold rejHit
                        rw [HRB.out, decide_eq_false]
                        · rfl
                        · rintro ⟨s, hs1, hs2⟩
                          obtain ⟨i, hi, rfl⟩ := List.mem_iff_getElem.1 ((HM7.out s).2 hs1)
                          have := hq.out.2.2 i hi (by omega)
                          rw [(inB_iff _ _).2 hs2] at this
                          cases this))
                      have HBN := hide HBQ.out
                      clear hq
                      go_wp2_with fail
                      go_roundg (d.rejects.length - (k + 1))
                      case measure => rw [hu.out]; omega
                      case rel => exact ⟨k + 1, hide rfl, by go_num, hide ⟨hlt, HBN.out, HN.out⟩⟩
    · have hlti : ¬ (k : Int) < (d.rejects.length : Int) := by omega
      have HF := hide (show res = toldV okL by
        rw [← HRES.out]
        unfold rejectL
        rw [firstI_miss 49 _ _ d.rejects 0 (fun j h => hh.out.2.2 j h (by omega))])
      have HBN := hide hh.out.2.1
      go_wp2_with fail
      go_ret2
      exact ⟨by rw [HF.out]; rfl, below_next HB0.out HBN.out⟩
end Go.Proofs.Ytalicfpcmcbdbaa

set_option linter.unusedVariables false
set_option linter.unusedSimpArgs false
set_option linter.unnecessarySimpa false
set_option linter.deprecated false
namespace Go.Proofs.Ytalicfpcmcbdbaa
open Go.RowKit

theorem firstG_code {α : Type} (c : Int) (p : α → Bool) (nm : α → ByteArray) : ∀ l : List α, (firstG c p nm l).1 ≠ 0 → (firstG c p nm l).1 = c
  | [], h => absurd rfl h
  | x :: l, h => by
    rw [firstG] at h ⊢
    split
    · rfl
    · rename_i hq; rw [if_neg hq] at h; exact firstG_code c p nm l h
theorem firstL_code (c : Int) (p : ByteArray → Bool) : ∀ l : List ByteArray, (firstL c p l).1 ≠ 0 → (firstL c p l).1 = c
  | [], h => absurd rfl h
  | x :: l, h => by
    rw [firstL] at h ⊢
    split
    · rfl
    · rename_i hq; rw [if_neg hq] at h; exact firstL_code c p l h
theorem firstI_code {α : Type} (c : Int) (p : Nat → α → Bool) (nm : α → ByteArray) : ∀ (l : List α) (s : Nat), (firstI c p nm l s).1 ≠ 0 → (firstI c p nm l s).1 = c
  | [], _, h => absurd rfl h
  | x :: l, s, h => by
    rw [firstI] at h ⊢
    split
    · rfl
    · rename_i hq; rw [if_neg hq] at h; exact firstI_code c p nm l (s + 1) h
theorem prioG_code (f : List Gp → Option ByteArray) : ∀ l : List (List Gp), (prioG f l).1 ≠ 0 → (prioG f l).1 = 50
  | [], h => absurd rfl h
  | x :: l, h => by
    rw [prioG] at h ⊢
    split
    · rfl
    · rename_i hq; rw [hq] at h; exact prioG_code f l h
/-- What the lines of the looks tell, one behind the other. -/
noncomputable def lkR (d : Df) : Nat → Int × ByteArray
  | 0 => formL d
  | 1 => mixedL d
  | 2 => startL d
  | 3 => layL d
  | 4 => undefL d
  | 5 => firstG 44 (kindB d) Pd.sort d.prods
  | 6 => consLk d
  | 7 => firstG 46 bracketB Pd.sort d.prods
  | 8 => firstG 2 (longB d) Pd.sort d.prods
  | 9 => firstG 47 nullB Pd.sort d.prods
  | 10 => cycleL d
  | _ => okL
def lkZ : Nat → Int
  | 0 => 1
  | 1 => 2
  | 2 => 3
  | 3 => 4
  | 4 => 5
  | 5 => 6
  | 6 => 7
  | 7 => 8
  | 8 => 9
  | 9 => 11
  | 10 => 10
  | _ => 0
def lkC : Nat → Int
  | 0 => 3
  | 1 => 42
  | 2 => 40
  | 3 => 41
  | 4 => 43
  | 5 => 44
  | 6 => 45
  | 7 => 46
  | 8 => 2
  | 9 => 47
  | 10 => 48
  | _ => 0
theorem start_code (d : Df) (h : (startL d).1 ≠ 0) : (startL d).1 = 40 := by
  unfold startL at h ⊢
  split
  · rename_i hq; rw [if_pos hq] at h; exact absurd rfl h
  · rfl
theorem lay_code (d : Df) (h : (layL d).1 ≠ 0) : (layL d).1 = 41 := by
  unfold layL at h ⊢
  split
  · rename_i hq; rw [if_pos hq] at h; exact absurd rfl h
  · rfl
theorem form_code (d : Df) (h : (formL d).1 ≠ 0) : (formL d).1 = 3 := by
  unfold formL at h ⊢
  split
  · rename_i hq; rw [if_pos hq] at h; exact absurd rfl h
  · rfl
theorem lk_code (d : Df) : ∀ k, k < 11 → (lkR d k).1 ≠ 0 → (lkR d k).1 = lkC k
  | 0, _, h => form_code d h
  | 1, _, h => firstL_code _ _ _ h
  | 2, _, h => start_code d h
  | 3, _, h => lay_code d h
  | 4, _, h => firstL_code _ _ _ h
  | 5, _, h => firstG_code _ _ _ _ h
  | 6, _, h => firstI_code _ _ _ _ _ h
  | 7, _, h => firstG_code _ _ _ _ h
  | 8, _, h => firstG_code _ _ _ _ h
  | 9, _, h => firstG_code _ _ _ _ h
  | 10, _, h => firstL_code _ _ _ h
  | k + 11, hk, _ => absurd hk (by omega)
theorem runC_pre : ∀ (l1 l2 : List (Int × ByteArray)), (∀ x ∈ l1, x.1 = 0) → runC (l1 ++ l2) = runC l2
  | [], _, _ => rfl
  | x :: l1, l2, h => by
    rw [List.cons_append, runC, if_pos (h x (List.mem_cons_self ..))]
    exact runC_pre l1 l2 (fun y hy => h y (List.mem_cons_of_mem _ hy))
theorem runC_one (x : Int × ByteArray) (l : List (Int × ByteArray)) (h : x.1 ≠ 0) : runC (x :: l) = x := by rw [runC, if_neg h]
theorem runC_zero (x : Int × ByteArray) (l : List (Int × ByteArray)) (h : x.1 = 0) : runC (x :: l) = runC l := by rw [runC, if_pos h]
theorem lay_ends (d : Df) (hm : (mixedL d).1 = 0) (l : List (Int × ByteArray)) : runC (endsL d :: l) = runC (startL d :: layL d :: l) := by
  unfold endsL startL
  by_cases h1 : lexOf d.prods d.start = 2
  · rw [if_pos h1, if_pos h1, runC_zero okL _ rfl]
    have e : (if emp d.layout = true ∨ lexOf d.prods d.layout = 1 then okL else (41, d.layout)) = layL d := by
      unfold layL
      have hi : lexOf d.prods d.layout = 1 ↔ isLex d.prods d.layout true = true := by
        have hno : lexOf d.prods d.layout ≠ 3 := fun h3 => by
          have hm2 := (firstL_ok 42 (by decide) (fun s => decide (lexOf d.prods s = 3)) (sortsL d.prods)).1 hm d.layout ((inB_iff _ _).1 (by rw [inB_lex, h3]; rfl))
          rw [decide_eq_false_iff_not] at hm2
          exact hm2 h3
        revert hno
        unfold lexOf
        cases isLex d.prods d.layout true <;> cases isLex d.prods d.layout false <;> simp
      simp only [hi]
    rw [e]
  · rw [if_neg h1, if_neg h1, runC_one _ _ (by show (40 : Int) ≠ 0; decide), runC_one _ _ (by show (40 : Int) ≠ 0; decide)]
noncomputable def lastR (d : Df) : List (Int × ByteArray) := [rejectL d, prioL d, followL d, boxL d]
theorem check_ref (d : Df) : checkL d = runC ((List.range 11).map (lkR d) ++ lastR d) := by
  unfold checkL looksL
  show runC (formL d :: mixedL d :: endsL d :: (undefL d :: firstG 44 (kindB d) Pd.sort d.prods :: consLk d :: firstG 46 bracketB Pd.sort d.prods :: firstG 2 (longB d) Pd.sort d.prods :: firstG 47 nullB Pd.sort d.prods :: cycleL d :: lastR d)) = runC (formL d :: mixedL d :: startL d :: layL d :: (undefL d :: firstG 44 (kindB d) Pd.sort d.prods :: consLk d :: firstG 46 bracketB Pd.sort d.prods :: firstG 2 (longB d) Pd.sort d.prods :: firstG 47 nullB Pd.sort d.prods :: cycleL d :: lastR d))
  by_cases h1 : (formL d).1 = 0
  · rw [runC_zero _ _ h1, runC_zero _ _ h1]
    by_cases h2 : (mixedL d).1 = 0
    · rw [runC_zero _ _ h2, runC_zero _ _ h2]
      exact lay_ends d h2 _
    · rw [runC_one _ _ h2, runC_one _ _ h2]
  · rw [runC_one _ _ h1, runC_one _ _ h1]
theorem check_hit (d : Df) (k : Nat) (hk : k < 11) (h : ∀ j, j < k → (lkR d j).1 = 0) (hn : (lkR d k).1 ≠ 0) : checkL d = lkR d k := by
  rw [check_ref]
  have e : (List.range 11).map (lkR d) ++ lastR d = (List.range k).map (lkR d) ++ (lkR d k :: ((List.range' (k + 1) (10 - k)).map (lkR d) ++ lastR d)) := by
    match k, hk with
    | 0, _ => rfl
    | 1, _ => rfl
    | 2, _ => rfl
    | 3, _ => rfl
    | 4, _ => rfl
    | 5, _ => rfl
    | 6, _ => rfl
    | 7, _ => rfl
    | 8, _ => rfl
    | 9, _ => rfl
    | 10, _ => rfl
    | k + 11, hk => exact absurd hk (by omega)
  rw [e, runC_pre _ _ (fun x hx => by obtain ⟨j, hj, rfl⟩ := List.mem_map.1 hx; exact h j (List.mem_range.1 hj)), runC_one _ _ hn]
theorem check_last (d : Df) (h : ∀ j, j < 11 → (lkR d j).1 = 0) : checkL d = runC (lastR d) := by
  rw [check_ref, runC_pre _ _ (fun x hx => by obtain ⟨j, hj, rfl⟩ := List.mem_map.1 hx; exact h j (List.mem_range.1 hj))]
def cellsZ : Array Value := #[.int .i64 1, .int .i64 2, .int .i64 3, .int .i64 4, .int .i64 5, .int .i64 6, .int .i64 7, .int .i64 8, .int .i64 9, .int .i64 11, .int .i64 10]
def cellsC : Array Value := #[.int .i64 3, .int .i64 42, .int .i64 40, .int .i64 41, .int .i64 43, .int .i64 44, .int .i64 45, .int .i64 46, .int .i64 2, .int .i64 47, .int .i64 48]
theorem z_at : ∀ k, k < 11 → cellsZ[k]? = some (.int .i64 (lkZ k))
  | 0, _ => rfl
  | 1, _ => rfl
  | 2, _ => rfl
  | 3, _ => rfl
  | 4, _ => rfl
  | 5, _ => rfl
  | 6, _ => rfl
  | 7, _ => rfl
  | 8, _ => rfl
  | 9, _ => rfl
  | 10, _ => rfl
  | k + 11, hk => absurd hk (by omega)
theorem c_at : ∀ k, k < 11 → cellsC[k]? = some (.int .i64 (lkC k))
  | 0, _ => rfl
  | 1, _ => rfl
  | 2, _ => rfl
  | 3, _ => rfl
  | 4, _ => rfl
  | 5, _ => rfl
  | 6, _ => rfl
  | 7, _ => rfl
  | 8, _ => rfl
  | 9, _ => rfl
  | 10, _ => rfl
  | k + 11, hk => absurd hk (by omega)
theorem line_at (d : Df) (a2 : Option Addr) (c2 : Nat) (a3 : Option Addr) (c3 : Nat) (a4 : Option Addr) (c4 : Nat) (a5 : Option Addr) (c5 : Nat) (a6 : Option Addr) (c6 : Nat) (w : World) (hd : RD d ⟨a2, c2, a3, c3, a4, c4, a5, c5, a6, c6⟩ w) (hln : d.prods.length ≤ 100000) (hall : (d.prods.flatMap bareL).length ≤ 99999) (hsl : ∀ p ∈ d.prods, p.syms.length ≤ 10000) : ∀ k, k < 11 → Calls Try.prog 50 #[.agg #[.string d.start, .string d.layout, .slice a2 d.prods.length c2, .slice a3 d.chains.length c3, .slice a4 d.follows.length c4, .slice a5 d.rejects.length c5, .slice a6 d.boxes.length c6], .int .i64 (lkZ k)] w fun e w' => (∃ s, e = .returned (.tuple #[.string s, .bool (!decide ((lkR d k).1 = 0))]) ∧ ((lkR d k).1 ≠ 0 → s = (lkR d k).2)) ∧ Below w.heap.size w w'
  | 0, _ => line1_any d a2 c2 a3 c3 a4 c4 a5 c5 a6 c6 w hd hln hall hsl
  | 1, _ => line2_any d a2 c2 a3 c3 a4 c4 a5 c5 a6 c6 w hd hln hall hsl
  | 2, _ => line3_any d a2 c2 a3 c3 a4 c4 a5 c5 a6 c6 w hd hln hall hsl
  | 3, _ => line4_any d a2 c2 a3 c3 a4 c4 a5 c5 a6 c6 w hd hln hall hsl
  | 4, _ => line5_any d a2 c2 a3 c3 a4 c4 a5 c5 a6 c6 w hd hln hall hsl
  | 5, _ => line6_any d a2 c2 a3 c3 a4 c4 a5 c5 a6 c6 w hd hln hall hsl
  | 6, _ => line7_any d a2 c2 a3 c3 a4 c4 a5 c5 a6 c6 w hd hln hall hsl
  | 7, _ => line8_any d a2 c2 a3 c3 a4 c4 a5 c5 a6 c6 w hd hln hall hsl
  | 8, _ => line9_any d a2 c2 a3 c3 a4 c4 a5 c5 a6 c6 w hd hln hall hsl
  | 9, _ => line11_any d a2 c2 a3 c3 a4 c4 a5 c5 a6 c6 w hd hln hall hsl
  | 10, _ => line10_any d a2 c2 a3 c3 a4 c4 a5 c5 a6 c6 w hd hln hall hsl
  | k + 11, hk => absurd hk (by omega)
theorem Blk.get {w : World} {k : Nat} {c : Array Value} {t : TypeId} (h : Blk w k c t) {i : Nat} {v : Value} (hi : c[i]? = some v) : w.cell? ⟨k, i, none⟩ = some v := by
  rw [h.cell i]; exact hi
set_option maxHeartbeats 1600000 in
set_option maxRecDepth 100000 in
theorem refCheck_any (d : Df) (a2 : Option Addr) (c2 : Nat) (a3 : Option Addr) (c3 : Nat) (a4 : Option Addr) (c4 : Nat) (a5 : Option Addr) (c5 : Nat) (a6 : Option Addr) (c6 : Nat) (w : World) (hd : RD d ⟨a2, c2, a3, c3, a4, c4, a5, c5, a6, c6⟩ w) (hs : Small d) : Calls Try.prog 15 #[.agg #[.string d.start, .string d.layout, .slice a2 d.prods.length c2, .slice a3 d.chains.length c3, .slice a4 d.follows.length c4, .slice a5 d.rejects.length c5, .slice a6 d.boxes.length c6]] w fun e w' => e = .returned (.tuple #[.int .i64 (checkL d).1, .string (checkL d).2]) ∧ Below w.heap.size w w' := by
  have HSM := hide hs
  clear hs
  have hl4 := hd.f.1
  have HD := hide hd
  obtain ⟨res, hres⟩ : ∃ r, checkL d = r := ⟨_, rfl⟩
  rw [hres]
  have HRES := hide hres
  clear hres hd
  go_enter Try.func15, Try.ntmps15
  go_upto_region 1 with fail
  obtain ⟨kx, hkx⟩ : ∃ kx, w.heap.size = kx := ⟨_, rfl⟩
  obtain ⟨w1, h1⟩ : ∃ w1, w.alloc (.cells #[.string d.start, .string d.layout, .slice a2 d.prods.length c2, .slice a3 d.chains.length c3, .slice a4 d.follows.length c4, .slice a5 d.rejects.length c5, .slice a6 d.boxes.length c6] 28) = w1 := ⟨_, rfl⟩
  have HB0 := hide (show Below w.heap.size w w1 by rw [← h1]; exact NB.alloc (Below.refl _ _) _)
  have HX0 := hide (show Blk w1 kx #[.string d.start, .string d.layout, .slice a2 d.prods.length c2, .slice a3 d.chains.length c3, .slice a4 d.follows.length c4, .slice a5 d.rejects.length c5, .slice a6 d.boxes.length c6] 28 by rw [← h1, ← hkx]; exact Blk.new w _ _)
  replace HD := hide (HD.out.below HB0.out)
  rw [h1, hkx]
  clear h1 hkx
  have HHIT := hide (fun k hk h hn => (check_hit d k hk h hn).symm.trans HRES.out)
  have HLST := hide (fun h => (check_last d h).symm.trans HRES.out)
  clear HRES
  go_upto_region 3 with fail
  obtain ⟨kz, hkz⟩ : ∃ kz, w1.heap.size = kz := ⟨_, rfl⟩
  have e2 : (w1.alloc (.cells cellsZ 3)).heap.size = kz + 1 := by rw [← hkz]; simp
  obtain ⟨w2, h2⟩ : ∃ w2, w1.alloc (.cells cellsZ 3) = w2 := ⟨_, rfl⟩
  have HB2 := hide (show Below w1.heap.size w1 w2 by rw [← h2]; exact NB.alloc (Below.refl _ _) _)
  have HZ2 := hide (show Blk w2 kz cellsZ 3 by rw [← h2, ← hkz]; exact Blk.new w1 _ _)
  obtain ⟨w3, h3⟩ : ∃ w3, w2.alloc (.cells cellsC 32) = w3 := ⟨_, rfl⟩
  have HB3 := hide (show Below w2.heap.size w2 w3 by rw [← h3]; exact NB.alloc (Below.refl _ _) _)
  have HC3 := hide (show Blk w3 (kz + 1) cellsC 32 by rw [← h3, ← e2, h2]; exact Blk.new w2 _ _)
  have HZ3 := hide (HZ2.out.below HB3.out)
  have HX3 := hide ((HX0.out.below HB2.out).below HB3.out)
  have HD3 := hide ((HD.out.below HB2.out).below HB3.out)
  have HB13 := hide (below_next HB0.out (below_next HB2.out HB3.out))
  unfold cellsZ at h2
  unfold cellsC at h3
  rw [hkz, h2, h3]
  clear h2 h3 hkz e2 HB2 HB3 HZ2 HX0 HD HB0
  clear w1 w2
  go_wp2_with fail
  go_loopg [6] 11 (fun u v6 wr => ∃ k : Nat, Hid (u = 11 - k) ∧ v6 = .int .i64 (k : Int) ∧ Hid (k ≤ 11 ∧ Below w3.heap.size w3 wr ∧ ∀ j, j < k → (lkR d j).1 = 0))
  case atStart => exact ⟨0, hide rfl, rfl, hide ⟨Nat.zero_le _, Below.refl _ _, fun _ h => absurd h (Nat.not_lt_zero _)⟩⟩
  case round =>
    obtain ⟨k, hu, rfl, hh⟩ := hrel
    have hkl := hh.out.1
    have HBR := hide hh.out.2.1
    by_cases hlt : k < 11
    · have hlti : (k : Int) < 11 := by omega
      have f0 := (HZ3.out.below HBR.out).get (z_at k hlt)
      have f1 := (HC3.out.below HBR.out).get (c_at k hlt)
      have hz := (HZ3.out.below HBR.out).lt
      have hc := (HC3.out.below HBR.out).lt
      have x0 := (HX3.out.below HBR.out).cell 0
      have x1 := (HX3.out.below HBR.out).cell 1
      have x2 := (HX3.out.below HBR.out).cell 2
      have x3 := (HX3.out.below HBR.out).cell 3
      have x4 := (HX3.out.below HBR.out).cell 4
      have x5 := (HX3.out.below HBR.out).cell 5
      have x6 := (HX3.out.below HBR.out).cell 6
      have xl := (HX3.out.below HBR.out).lt
      have HLN := hide (line_at d a2 c2 a3 c3 a4 c4 a5 c5 a6 c6 wr.drew (HD3.out.below HBR.out.drew) HSM.out.pl5 HSM.out.al HSM.out.sl k hlt)
      have HCD := hide (lk_code d k hlt)
      have HH := hide (fun hn => HHIT.out k hlt hh.out.2.2 hn)
      have HN := hide (fun (hz : (lkR d k).1 = 0) => (show ∀ j, j < k + 1 → (lkR d j).1 = 0 from fun j hj => by
        by_cases e : j = k
        · subst e; exact hz
        · exact hh.out.2.2 j (by omega)))
      clear hh
      generalize lkR d k = r at HLN HCD HH HN
      generalize lkZ k = z at f0 HLN
      generalize lkC k = cc at f1 HCD
      go_upto_region 6 with fail
      refine wp_region_lex 10 [(0, true), (1, true), (2, true), (3, true), (4, true), (5, false), (6, true), (7, true), (8, true), (9, true)] (fun W => (W.cell? ⟨kx, 0, none⟩ = some (.string d.start) ∧ W.cell? ⟨kx, 1, none⟩ = some (.string d.layout) ∧ W.cell? ⟨kx, 2, none⟩ = some (.slice a2 d.prods.length c2) ∧ W.cell? ⟨kx, 3, none⟩ = some (.slice a3 d.chains.length c3) ∧ W.cell? ⟨kx, 4, none⟩ = some (.slice a4 d.follows.length c4) ∧ W.cell? ⟨kx, 5, none⟩ = some (.slice a5 d.rejects.length c5) ∧ W.cell? ⟨kx, 6, none⟩ = some (.slice a6 d.boxes.length c6) ∧ kx < W.heap.size ∧ W.cell? ⟨kz, k, none⟩ = some (.int .i64 z) ∧ kz < W.heap.size)) rfl (by kernel_rfl) (by kernel_rfl) (fun _ _ d _ _ h => by cases d <;> exact h) ⟨x0, x1, x2, x3, x4, x5, x6, xl, f0, hz⟩ (fun hS0 => ?_)
      simp only [lexOps, List.filterMap_cons, List.filterMap_nil, List.getElem?_cons_zero, List.getElem?_cons_succ, Option.map_some, List.drop_succ_cons, List.drop_zero]
      repeat
        first
        | (refine wpLex_take (v := ?_) (by rfl) ?_ ?_
           rotate_left
           · intro w hSw
             (try dsimp only at hSw)
             go_simp
             try with_reducible rfl
           try simp only [Act.put, List.setIfInBounds_toArray, List.set_cons_zero, List.set_cons_succ])
        | (refine wpLex_skip (by rfl) ?_
           try simp only [Act.put, List.setIfInBounds_toArray, List.set_cons_zero, List.set_cons_succ])
      refine wpLex_step (fun K hK => ?_)
      go_simp
      refine HLN.out.mono ?_
      rintro e w5 ⟨⟨s, rfl, hs⟩, hb5⟩
      have HS := hide hs
      replace hb5 := below_next (Below.refl wr.heap.size wr).drew hb5
      have HB5 := hide (below_next HBR.out hb5)
      have hx7 := HX3.out.below HB5.out
      have f0' := (hb5.cell (p := ⟨kz, k, none⟩) hz).trans f0
      have hz' := Nat.lt_of_lt_of_le hz hb5.size
      refine hK _ _ ⟨hx7.cell 0, hx7.cell 1, hx7.cell 2, hx7.cell 3, hx7.cell 4, hx7.cell 5, hx7.cell 6, hx7.lt, f0', hz'⟩ (fun hS1 => ?_)
      try simp only [Act.put, List.setIfInBounds_toArray, List.set_cons_zero, List.set_cons_succ]
      repeat
        first
        | (refine wpLex_take (v := ?_) (by rfl) ?_ ?_
           rotate_left
           · intro w hSw
             (try dsimp only at hSw)
             go_simp
             try with_reducible rfl
           try simp only [Act.put, List.setIfInBounds_toArray, List.set_cons_zero, List.set_cons_succ])
        | (refine wpLex_skip (by rfl) ?_
           try simp only [Act.put, List.setIfInBounds_toArray, List.set_cons_zero, List.set_cons_succ])
      refine wpLex_nil ?_
      have f1' : w5.cell? ⟨kz + 1, k, none⟩ = some (.int .i64 cc) := (hb5.cell (p := ⟨kz + 1, k, none⟩) hc).trans f1
      clear hS0 hS1 hs hb5 hx7 f0' hz' x0 x1 x2 x3 x4 x5 x6 xl f0 hz f1 hc
      have f1 := f1'
      have hc : kz + 1 < w5.heap.size := (HC3.out.below HB5.out).lt
      by_cases hr : r.1 = 0
      · have hb : (!decide (r.1 = 0)) = false := by rw [decide_eq_true hr]; rfl
        have HN2 := hide (HN.out hr)
        rw [hb]
        clear hr hb
        go_wp2_with fail
        go_roundg (11 - (k + 1))
        case measure => rw [hu.out]; omega
        case rel => exact ⟨k + 1, hide rfl, by go_num, hide ⟨hlt, HB5.out, HN2.out⟩⟩
      · have hb : (!decide (r.1 = 0)) = true := by rw [decide_eq_false hr]; rfl
        have HH2 := hide (show cc = res.1 ∧ s = res.2 by rw [← HH.out hr]; exact ⟨(HCD.out hr).symm, HS.out hr⟩)
        rw [hb]
        clear hr hb
        go_wp2_with fail
        go_ret2
        exact ⟨by rw [← HH2.out.1, ← HH2.out.2]; rfl, below_next HB13.out HB5.out⟩
    · have hlti : ¬ (k : Int) < 11 := by omega
      have HL := hide (show runC (rejectL d :: prioL d :: followL d :: boxL d :: []) = res from HLST.out (fun j hj => hh.out.2.2 j (by omega)))
      have HFM := hide (show rightDfB d = true by
        have h := hh.out.2.2 0 (by omega)
        cases hq : rightDfB d with
        | true => rfl
        | false => rw [show lkR d 0 = formL d from rfl] at h; unfold formL at h; rw [hq] at h; exact absurd h (by decide))
      clear hh hu hkl HHIT HLST
      have x0 := (HX3.out.below HBR.out).cell 0
      have x1 := (HX3.out.below HBR.out).cell 1
      have x2 := (HX3.out.below HBR.out).cell 2
      have x3 := (HX3.out.below HBR.out).cell 3
      have x4 := (HX3.out.below HBR.out).cell 4
      have x5 := (HX3.out.below HBR.out).cell 5
      have x6 := (HX3.out.below HBR.out).cell 6
      have xl := (HX3.out.below HBR.out).lt
      have HCL := hide (rejects_any d a2 c2 a3 c3 a4 c4 a5 c5 a6 c6 wr (HD3.out.below HBR.out) HSM.out.nl)
      have HCD := hide (show (rejectL d).1 ≠ 0 → (rejectL d).1 = 49 from firstI_code 49 (rejHit d) Rj.sort d.rejects 0)
      generalize rejectL d = r at HCL HCD HL
      obtain ⟨c, s⟩ := r
      replace HCL := hide (show Calls Try.prog 51 #[.agg #[.string d.start, .string d.layout, .slice a2 d.prods.length c2, .slice a3 d.chains.length c3, .slice a4 d.follows.length c4, .slice a5 d.rejects.length c5, .slice a6 d.boxes.length c6]] wr fun e w' => e = .returned (.tuple #[.string s, .bool (!decide (c = 0))]) ∧ Below wr.heap.size wr w' from HCL.out)
      by_cases hz : c = 0
      · have hb : (!decide (c = 0)) = false := by rw [decide_eq_true hz]; rfl
        replace HL := hide ((runC_zero (c, s) _ hz).symm.trans HL.out)
        rw [hb] at HCL
        clear hz hb HCD
        go_wp2_with fail
        refine HCL.out.mono ?_
        rintro e w6 ⟨rfl, hb9⟩
        have HB6 := hide (below_next HBR.out hb9)
        clear hb9 x0 x1 x2 x3 x4 x5 x6 xl HCL
        have x0 := (HX3.out.below HB6.out).cell 0
        have x1 := (HX3.out.below HB6.out).cell 1
        have x2 := (HX3.out.below HB6.out).cell 2
        have x3 := (HX3.out.below HB6.out).cell 3
        have x4 := (HX3.out.below HB6.out).cell 4
        have x5 := (HX3.out.below HB6.out).cell 5
        have x6 := (HX3.out.below HB6.out).cell 6
        have xl := (HX3.out.below HB6.out).lt
        have HCL := hide (prios_any d a2 c2 a3 c3 a4 c4 a5 c5 a6 c6 w6 (HD3.out.below HB6.out) HSM.out.ct)
        have HCD := hide (show (prioL d).1 ≠ 0 → (prioL d).1 = 50 from prioG_code (prioF d) d.chains)
        generalize prioL d = r at HCL HCD HL
        obtain ⟨c, s⟩ := r
        replace HCL := hide (show Calls Try.prog 52 #[.agg #[.string d.start, .string d.layout, .slice a2 d.prods.length c2, .slice a3 d.chains.length c3, .slice a4 d.follows.length c4, .slice a5 d.rejects.length c5, .slice a6 d.boxes.length c6]] w6 fun e w' => e = .returned (.tuple #[.string s, .bool (!decide (c = 0))]) ∧ Below w6.heap.size w6 w' from HCL.out)
        by_cases hz : c = 0
        · have hb : (!decide (c = 0)) = false := by rw [decide_eq_true hz]; rfl
          replace HL := hide ((runC_zero (c, s) _ hz).symm.trans HL.out)
          rw [hb] at HCL
          clear hz hb HCD
          go_wp2_with fail
          refine HCL.out.mono ?_
          rintro e w7 ⟨rfl, hb9⟩
          have HB7 := hide (below_next HB6.out hb9)
          clear hb9 x0 x1 x2 x3 x4 x5 x6 xl HCL
          obtain ⟨w8, rfl⟩ : ∃ w8 : World, w8 = w7 := ⟨_, rfl⟩
          go_wp2_with fail
          go_loopg [11] d.follows.length (fun u v11 wr => ∃ k : Nat, Hid (u = d.follows.length - k) ∧ v11 = .int .i64 (k : Int) ∧ Hid (k ≤ d.follows.length ∧ w8 = wr ∧ ∀ j (h : j < d.follows.length), j < k → decide (d.follows[j].set = zS) = false))
          case atStart => exact ⟨0, hide rfl, rfl, hide ⟨Nat.zero_le _, rfl, fun j _ h => by omega⟩⟩
          case round =>
            obtain ⟨g, hv, rfl, hq⟩ := hrel
            have hgl := hq.out.1
            obtain rfl := hq.out.2.1
            have x4 := (HX3.out.below HB7.out).cell 4
            have xl := (HX3.out.below HB7.out).lt
            by_cases hltg : g < d.follows.length
            · have hltgi : (g : Int) < (d.follows.length : Int) := by omega
              obtain ⟨b, o, rfl, hb, hat⟩ := (HD3.out.below HB7.out).f.get hltg
              have hx := hat g hltg
              have HNX := hide (fun (h : decide (d.follows[g].set = zS) = false) => none_next (f := fun f => decide (f.set = zS)) (l := d.follows) (k := g) hq.out.2.2 (fun _ => rfl) h)
              have HHI := hide (fun (h : decide (d.follows[g].set = zS) = true) => firstG_hit 51 (fun f => decide (f.set = zS)) Fl.sort d.follows g hltg hq.out.2.2 h)
              generalize d.follows[g] = x at hx HNX HHI
              clear hat hq
              obtain ⟨e0, e1, e2, e3, e4⟩ := hx.cells
              obtain ⟨so, st⟩ := x
              have hso : st.ok := hx.1.s
              have hqs := fun W => eql_zero st hso W
              clear hx hso
              obtain ⟨q, hq⟩ : ∃ q, decide (st = zS) = q := ⟨_, rfl⟩
              simp only [hq] at hqs
              replace HNX := hide (fun (h : q = false) => HNX.out (hq.trans h))
              replace HHI := hide (fun (h : q = true) => HHI.out (hq.trans h))
              clear hq
              cases q
              · have HN := hide (HNX.out rfl)
                clear HHI HNX
                go_wp2_with fail
                go_roundg (d.follows.length - (g + 1))
                case measure => rw [hv.out]; omega
                case rel => exact ⟨g + 1, hide rfl, by go_num, hide ⟨hltg, rfl, HN.out⟩⟩
              · have HF := hide (show ((51 : Int), so) = res by
                  have hf : followL d = (51, so) := HHI.out rfl
                  rw [← HL.out, hf, runC_one (51, so) _ (show (51 : Int) ≠ 0 by decide)])
                clear HHI HNX
                go_upto_region 19 with fail
                go_quiet (fail)
                go_wp2_with fail
                go_ret2
                exact ⟨by rw [← HF.out]; rfl, below_next HB13.out (HB7.out.trans ⟨rfl, rfl, rfl, Nat.le_refl _, fun _ _ => rfl⟩)⟩
            · have hltgi : ¬ (g : Int) < (d.follows.length : Int) := by omega
              have HF := hide (show followL d = okL from firstG_miss 51 (fun f : Fl => decide (f.set = zS)) Fl.sort d.follows (fun j h => hq.out.2.2 j h (by omega)))
              replace HL := hide (show runC (boxL d :: []) = res by rw [← HL.out, HF.out, runC_zero okL _ rfl])
              have HB9 := hide HB7.out
              obtain ⟨w9, rfl⟩ : ∃ w9 : World, w9 = w8 := ⟨_, rfl⟩
              clear hq hv hgl x4 xl HF
              have x0 := (HX3.out.below HB9.out).cell 0
              have x1 := (HX3.out.below HB9.out).cell 1
              have x2 := (HX3.out.below HB9.out).cell 2
              have x3 := (HX3.out.below HB9.out).cell 3
              have x4 := (HX3.out.below HB9.out).cell 4
              have x5 := (HX3.out.below HB9.out).cell 5
              have x6 := (HX3.out.below HB9.out).cell 6
              have xl := (HX3.out.below HB9.out).lt
              have HCL := hide (boxes_any d a2 c2 a3 c3 a4 c4 a5 c5 a6 c6 w9 (HD3.out.below HB9.out) HFM.out HSM.out.sl)
              have HCD := hide (show (boxL d).1 ≠ 0 → (boxL d).1 = 52 from firstI_code 52 (boxHit d) Bx.cons d.boxes 0)
              generalize boxL d = r at HCL HCD HL
              obtain ⟨c, s⟩ := r
              replace HCL := hide (show Calls Try.prog 53 #[.agg #[.string d.start, .string d.layout, .slice a2 d.prods.length c2, .slice a3 d.chains.length c3, .slice a4 d.follows.length c4, .slice a5 d.rejects.length c5, .slice a6 d.boxes.length c6]] w9 fun e w' => e = .returned (.tuple #[.string s, .bool (!decide (c = 0))]) ∧ Below w9.heap.size w9 w' from HCL.out)
              by_cases hz : c = 0
              · have hb : (!decide (c = 0)) = false := by rw [decide_eq_true hz]; rfl
                replace HL := hide ((runC_zero (c, s) _ hz).symm.trans HL.out)
                rw [hb] at HCL
                clear hz hb HCD
                go_wp2_with fail
                refine HCL.out.mono ?_
                rintro e w10 ⟨rfl, hb9⟩
                have HB10 := hide (below_next HB9.out hb9)
                clear hb9 x0 x1 x2 x3 x4 x5 x6 xl HCL
                go_wp2_with fail
                go_ret2
                exact ⟨by rw [← HL.out]; rfl, below_next HB13.out HB10.out⟩
              · have hb : (!decide (c = 0)) = true := by rw [decide_eq_false hz]; rfl
                have hcc : c = 52 := HCD.out hz
                have HE := hide (show ((52 : Int), s) = res by rw [← HL.out, runC_one (c, s) _ hz, hcc])
                rw [hb] at HCL
                clear hz hb HCD hcc
                go_wp2_with fail
                refine HCL.out.mono ?_
                rintro e w10 ⟨rfl, hb9⟩
                have HB10 := hide (below_next HB9.out hb9)
                clear hb9 x0 x1 x2 x3 x4 x5 x6 xl HCL
                go_wp2_with fail
                go_ret2
                exact ⟨by rw [← HE.out]; rfl, below_next HB13.out HB10.out⟩
        · have hb : (!decide (c = 0)) = true := by rw [decide_eq_false hz]; rfl
          have hcc : c = 50 := HCD.out hz
          have HE := hide (show ((50 : Int), s) = res by rw [← HL.out, runC_one (c, s) _ hz, hcc])
          rw [hb] at HCL
          clear hz hb HCD hcc
          go_wp2_with fail
          refine HCL.out.mono ?_
          rintro e w7 ⟨rfl, hb9⟩
          have HB7 := hide (below_next HB6.out hb9)
          clear hb9 x0 x1 x2 x3 x4 x5 x6 xl HCL
          go_wp2_with fail
          go_ret2
          exact ⟨by rw [← HE.out]; rfl, below_next HB13.out HB7.out⟩
      · have hb : (!decide (c = 0)) = true := by rw [decide_eq_false hz]; rfl
        have hcc : c = 49 := HCD.out hz
        have HE := hide (show ((49 : Int), s) = res by rw [← HL.out, runC_one (c, s) _ hz, hcc])
        rw [hb] at HCL
        clear hz hb HCD hcc
        go_wp2_with fail
        refine HCL.out.mono ?_
        rintro e w6 ⟨rfl, hb9⟩
        have HB6 := hide (below_next HBR.out hb9)
        clear hb9 x0 x1 x2 x3 x4 x5 x6 xl HCL
        go_wp2_with fail
        go_ret2
        exact ⟨by rw [← HE.out]; rfl, below_next HB13.out HB6.out⟩
end Go.Proofs.Ytalicfpcmcbdbaa
