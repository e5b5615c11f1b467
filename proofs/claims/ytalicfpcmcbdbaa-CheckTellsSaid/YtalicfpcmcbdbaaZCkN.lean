/- The reference: boxes. The reference: prios. -/
import Derived.Test.YtalicfpcmcbdbaaZCkP
import Derived.Test.YtalicfpcmcbdbaaZCkG
import Derived.Test.YtalicfpcmcbdbaaZRefL
import Derived.Test.YtalicfpcmcbdbaaZCpE
import Derived.Test.YtalicfpcmcbdbaaZRgL
import Derived.BigQuiet
import Derived.Test.YtalicfpcmcbdbaaZInL
import Derived.Test.YtalicfpcmcbdbaaZLookA
import Derived.Test.YtalicfpcmcbdbaaZChk
set_option linter.unusedVariables false
set_option linter.unusedSimpArgs false
set_option linter.unnecessarySimpa false
set_option linter.deprecated false
namespace Go.Proofs.Ytalicfpcmcbdbaa
open Go.RowKit

def LfAt (x : It) (b o : Nat) (W : World) : Prop := okLf x ∧ CellsAt (lfC x) b o W
theorem LfAt.stable : Stable LfAt := fun _ _ _ _ _ hb hlt h => ⟨h.1, h.2.below hb hlt⟩
theorem lf_row {l : List It} {B : Nat} {a : Option Addr} {c : Nat} {W : World} (ho : W.ownsRow B 96 4 (.slice a l.length c) l.length (lfsC l)) (hk : ∀ x ∈ l, okLf x) (hl : l.length ≤ 1000) : Row LfAt 4 l a W := by
  have hE : OwnE (fun (x : It) cs (_ : World) => cs = lfC x ∧ okLf x) B 96 4 l (.slice a l.length c) (l.map lfC) W := by
    refine ⟨?_, by simp, fun cs hcs => ?_, fun i h1 h5 => ⟨by simp, hk _ (List.getElem_mem h5)⟩⟩
    · have e : (l.map lfC).flatten = lfsC l := by unfold lfsC; rw [List.flatMap_def]
      rw [e, List.length_map]; exact ho
    · obtain ⟨s, _, rfl⟩ := List.mem_map.1 hcs; rfl
  obtain ⟨a', c', e, hr, _⟩ := hE.row (At := LfAt) (fun s _ cs b o he hc => ⟨he.2, by rw [← he.1]; exact hc⟩) (by omega)
  injection e with e1 _ _
  rw [e1]; exact hr
theorem boxHit_fit {d : Df} {k ki : Nat} {x : Bx} (hki : ki < d.prods.length) (hci : consIdx d.prods x.cons = (ki : Int)) (hm : inB x.cons (metB d k) = false) : boxHit d k x = !fitOk d.prods[ki] x.items := by
  unfold boxHit
  rw [hci, hm, decide_eq_false (by omega)]
  simp only [Int.toNat_natCast, List.getElem?_eq_getElem hki]
  rfl
theorem step_at {l : List It} {sy : List Sy} {j : Nat} {h : Int} (hj : j < l.length) (hjs : j < sy.length) (he : stepL (l.take j) sy 0 = some (sy.drop j, h)) : stepL (l.take (j + 1)) sy 0 = stepL [l[j]] (sy[j] :: sy.drop (j + 1)) h := by
  rw [take_snoc l j hj, stepL_app, he, List.drop_eq_getElem_cons hjs]; rfl
theorem step_none {l : List It} {sy : List Sy} {j : Nat} (hj : j ≤ l.length) (he : stepL (l.take j) sy 0 = none) : stepL l sy 0 = none := by
  conv => lhs; rw [← List.take_append_drop j l, stepL_app, he]
  rfl
theorem step_lit {y : It} {s : Sy} {r : List Sy} {m : Int} (h : s.kind = 1) : stepL [y] (s :: r) m = if litB y.kind y.text y.num s = true then some (r, m) else none := by
  rw [stepL, if_pos h, stepL]
theorem step_hol {y : It} {s : Sy} {r : List Sy} {m : Int} (h : ¬ s.kind = 1) : stepL [y] (s :: r) m = if holB y.kind y.text y.num m = true then some (r, m + 1) else none := by
  rw [stepL, if_neg h, stepL]
set_option maxHeartbeats 3200000 in
set_option maxRecDepth 100000 in
theorem boxes_any (d : Df) (a2 : Option Addr) (c2 : Nat) (a3 : Option Addr) (c3 : Nat) (a4 : Option Addr) (c4 : Nat) (a5 : Option Addr) (c5 : Nat) (a6 : Option Addr) (c6 : Nat) (w : World) (hd : RD d ⟨a2, c2, a3, c3, a4, c4, a5, c5, a6, c6⟩ w) (hform : rightDfB d = true) (hsl : ∀ p ∈ d.prods, p.syms.length ≤ 10000) : Calls Try.prog 53 #[.agg #[.string d.start, .string d.layout, .slice a2 d.prods.length c2, .slice a3 d.chains.length c3, .slice a4 d.follows.length c4, .slice a5 d.rejects.length c5, .slice a6 d.boxes.length c6]] w fun e w' => e = .returned (toldV (boxL d)) ∧ Below w.heap.size w w' := by
  have HRI := hide (show ∀ x ∈ d.boxes, (rIs x.items 64).isSome = true from fun x hx => by
    unfold rightDfB at hform
    simp only [Bool.and_eq_true] at hform
    have hb := List.all_eq_true.1 hform.2.2.2.2.2.2.2 x hx
    unfold rightBxB at hb
    rw [Bool.and_eq_true] at hb
    exact hb.2)
  have HSL := hide hsl
  have hl6 := hd.x.1
  have hl2 := hd.p.1
  clear hform hsl
  have HD := hide hd
  obtain ⟨res, hres⟩ : ∃ r, toldV (boxL d) = r := ⟨_, rfl⟩
  rw [hres]
  have HRES := hide hres
  clear hres hd
  go_enter Try.func53, Try.ntmps53
  go_upto_region 1 with fail
  obtain ⟨kx, hkx⟩ : ∃ kx, w.heap.size = kx := ⟨_, rfl⟩
  obtain ⟨w1, h1⟩ : ∃ w1, w.alloc (.cells #[.string d.start, .string d.layout, .slice a2 d.prods.length c2, .slice a3 d.chains.length c3, .slice a4 d.follows.length c4, .slice a5 d.rejects.length c5, .slice a6 d.boxes.length c6] 28) = w1 := ⟨_, rfl⟩
  have HB0 := hide (show Below w.heap.size w w1 by rw [← h1]; exact NB.alloc (Below.refl _ _) _)
  have HX0 := hide (show Blk w1 kx #[.string d.start, .string d.layout, .slice a2 d.prods.length c2, .slice a3 d.chains.length c3, .slice a4 d.follows.length c4, .slice a5 d.rejects.length c5, .slice a6 d.boxes.length c6] 28 by rw [← h1, ← hkx]; exact Blk.new w _ _)
  replace HD := hide (HD.out.below HB0.out)
  rw [h1, hkx]
  clear h1 hkx
  go_wp2_with fail
  go_loopg [4] d.boxes.length (fun u v4 wr => ∃ k : Nat, Hid (u = d.boxes.length - k) ∧ v4 = .int .i64 (k : Int) ∧ Hid (k ≤ d.boxes.length ∧ Below w1.heap.size w1 wr ∧ ∀ j (h : j < d.boxes.length), j < k → boxHit d (0 + j) d.boxes[j] = false))
  case atStart => exact ⟨0, hide rfl, rfl, hide ⟨Nat.zero_le _, Below.refl _ _, fun _ _ h => absurd h (Nat.not_lt_zero _)⟩⟩
  case round =>
    obtain ⟨k, hu, rfl, hh⟩ := hrel
    have hkl := hh.out.1
    have HXR := hide (HX0.out.below hh.out.2.1)
    have HBR := hide hh.out.2.1
    have x6 := HXR.out.cell 6
    have xl := HXR.out.lt
    by_cases hlt : k < d.boxes.length
    · have hlti : (k : Int) < (d.boxes.length : Int) := by omega
      obtain ⟨b, o, rfl, hb0, hat0⟩ := HD.out.x.get hlt
      have hx0 := hat0 k hlt
      have HHI := hide (fun (ht : boxHit d k d.boxes[k] = true) => (show res = toldV (52, (d.boxes[k]).cons) by
        rw [← HRES.out]
        unfold boxL
        rw [firstI_hit 52 _ _ d.boxes 0 k hlt hh.out.2.2 (by rw [Nat.zero_add]; exact ht)]))
      have HNX := hide (fun (hf : boxHit d k d.boxes[k] = false) => (show ∀ j (h : j < d.boxes.length), j < k + 1 → boxHit d (0 + j) d.boxes[j] = false from fun j h hj => by
        by_cases e : j = k
        · subst e; rw [Nat.zero_add]; exact hf
        · exact hh.out.2.2 j h (by omega)))
      have HRX := hide (HRI.out _ (List.getElem_mem hlt))
      generalize d.boxes[k] = x at hx0 HNX HHI HRX
      clear hat0 hh
      obtain ⟨cn, its⟩ := x
      obtain ⟨hcn, ai, ci, hca, hri⟩ := hx0
      have HEA := hide (fun (hm : inB cn (metB d k) = true) => HHI.out (by unfold boxHit; rw [show inB (Bx.mk cn its).cons (metB d k) = true from hm]; simp))
      have HNG := hide (fun (hm : consIdx d.prods cn < 0) => HHI.out (by unfold boxHit; rw [show decide (consIdx d.prods (Bx.mk cn its).cons < 0) = true from decide_eq_true hm]; rfl))
      have HFI := hide (fun (ki : Nat) (hki : ki < d.prods.length) (hci : consIdx d.prods cn = (ki : Int)) (hm : inB cn (metB d k) = false) => (show boxHit d k ⟨cn, its⟩ = !fitOk d.prods[ki] its from boxHit_fit hki hci hm))
      have e0 : wr.cell? ⟨b, o + k * 2, none⟩ = some (.string cn) := (HBR.out.cell (p := ⟨b, o + k * 2, none⟩) hb0).trans (hca 0 _ rfl)
      have e1 : wr.cell? ⟨b, o + k * 2 + 1, none⟩ = some (.slice ai its.length ci) := (HBR.out.cell (p := ⟨b, o + k * 2 + 1, none⟩) hb0).trans (hca 1 _ rfl)
      have hb := Nat.lt_of_lt_of_le hb0 HBR.out.size
      have HIT := hide hri
      have hil := hri.1
      clear hcn hca hri hb0
      go_upto_region 5 with fail
      obtain ⟨kp, hkp⟩ : ∃ kp, wr.heap.size = kp := ⟨_, rfl⟩
      obtain ⟨w6, h6⟩ : ∃ w6, wr.alloc (.cells #[.string cn, .slice ai its.length ci] 53) = w6 := ⟨_, rfl⟩
      have hb6 := hide (show Below wr.heap.size wr w6 by rw [← h6]; exact NB.alloc (Below.refl _ _) _)
      have HS6 := hide (show Blk w6 kp #[.string cn, .slice ai its.length ci] 53 by rw [← h6, ← hkp]; exact Blk.new wr _ _)
      have HB6 := hide (below_next HBR.out hb6.out)
      rw [h6, hkp]
      clear h6 hkp e0 e1 hb x6 xl
      have s0 := HS6.out.cell 0
      have s1 := HS6.out.cell 1
      have sl := HS6.out.lt
      have x0 := (HX0.out.below HB6.out).cell 0
      have x1 := (HX0.out.below HB6.out).cell 1
      have x2 := (HX0.out.below HB6.out).cell 2
      have x3 := (HX0.out.below HB6.out).cell 3
      have x4 := (HX0.out.below HB6.out).cell 4
      have x5 := (HX0.out.below HB6.out).cell 5
      have x6 := (HX0.out.below HB6.out).cell 6
      have xl := (HX0.out.below HB6.out).lt
      have HC := hide (rCons_any d a2 c2 a3 c3 a4 c4 a5 c5 (some ⟨b, o, none⟩) c6 cn w6 (HD.out.below HB6.out))
      obtain ⟨cx, hcx⟩ : ∃ cx, consIdx d.prods cn = cx := ⟨_, rfl⟩
      rw [hcx] at HC
      have HCX := hide hcx
      clear hcx
      go_wp2_with fail
      refine HC.out.mono ?_
      rintro e w7 ⟨rfl, hb7⟩
      have HB7 := hide (below_next HB6.out hb7)
      have H67 := hide hb7
      clear x0 x1 x2 x3 x4 x5 x6 xl s0 s1 sl HC hb7
      have s0 := (HS6.out.below H67.out).cell 0
      have s1 := (HS6.out.below H67.out).cell 1
      have sl := (HS6.out.below H67.out).lt
      by_cases hneg : cx < 0
      · have d0 : decide (cx < 0) = true := decide_eq_true hneg
        have HF := hide (HNG.out (by rw [HCX.out]; exact hneg))
        have HBN := hide HB7.out
        clear hneg
        go_wp2_with fail
        go_ret2
        exact ⟨by rw [HF.out]; rfl, below_next HB0.out HBN.out⟩
      have d0 : decide (cx < 0) = false := decide_eq_false hneg
      obtain ⟨ki, hki, hce⟩ : ∃ ki, ki < d.prods.length ∧ cx = (ki : Int) := by
        rcases consIdx_cases d.prods cn with ⟨h1, _⟩ | ⟨_, k0, hk0, h1, _⟩
        · rw [HCX.out] at h1; omega
        · exact ⟨k0, hk0, by rw [← HCX.out, h1]⟩
      subst hce
      clear hneg
      have x6 := (HX0.out.below HB7.out).cell 6
      have xl := (HX0.out.below HB7.out).lt
      go_wp2_with fail
      obtain ⟨wo, rfl⟩ : ∃ wo : World, wo = w7 := ⟨_, rfl⟩
      go_loopg [7] k (fun u v7 wr => ∃ j : Nat, Hid (u = k - j) ∧ v7 = .int .i64 (j : Int) ∧ Hid (j ≤ k ∧ Below wo.heap.size wo wr ∧ (∀ i (h : i < d.boxes.length), i < j → (d.boxes[i]).cons ≠ cn)))
      case atStart => exact ⟨0, hide rfl, rfl, hide ⟨Nat.zero_le _, Below.refl _ _, fun _ _ h => absurd h (Nat.not_lt_zero _)⟩⟩
      case round =>
        obtain ⟨j, hv, rfl, hq⟩ := hrel
        have hjl := hq.out.1
        have HBQ := hide (below_next HB7.out hq.out.2.1)
        have H6Q := hide (below_next H67.out hq.out.2.1)
        clear x6 xl s0 s1 sl
        have x6 := (HX0.out.below HBQ.out).cell 6
        have xl := (HX0.out.below HBQ.out).lt
        have s0 := (HS6.out.below H6Q.out).cell 0
        have s1 := (HS6.out.below H6Q.out).cell 1
        have sl := (HS6.out.below H6Q.out).lt
        by_cases hltj : j < k
        · have hltji : (j : Int) < (k : Int) := by omega
          have hltjr : (j : Int) < (d.boxes.length : Int) := by omega
          have hjr : j < d.boxes.length := by omega
          have hat2 := (HD.out.x.below BxAt.stable HBQ.out).2 (by intro h; rw [h] at hjr; simp at hjr)
          obtain ⟨b2, o2, hbo, hb2, hat2⟩ := hat2
          injection hbo with hbo
          injection hbo with hbo1 hbo2
          subst hbo1 hbo2
          have hx2 := hat2 j hjr
          have HN2 := hide (fun (hf : (d.boxes[j]).cons ≠ cn) => (show ∀ i (h : i < d.boxes.length), i < j + 1 → (d.boxes[i]).cons ≠ cn from fun i h hi => by
            by_cases e : i = j
            · subst e; exact hf
            · exact hq.out.2.2 i h (by omega)))
          have HH2 := hide (fun (ht : (d.boxes[j]).cons = cn) => HEA.out (by
            rw [inB_iff]
            unfold metB
            refine List.mem_map.2 ⟨d.boxes[j], ?_, ht⟩
            rw [List.mem_iff_getElem]; exact ⟨j, by rw [List.length_take]; omega, by rw [List.getElem_take]⟩))
          have HBQ2 := hide hq.out.2.1
          generalize d.boxes[j] = y at hx2 HN2 HH2
          clear hat2 hq
          obtain ⟨cn2, its2⟩ := y
          obtain ⟨hcn2, ai2, ci2, hca2, hri2⟩ := hx2
          have f0 := hca2 0 _ rfl
          rw [Nat.add_zero] at f0
          clear hcn2 hca2 hri2
          by_cases he : cn2 = cn
          · have h1 : (cn2.toList == cn.toList) = true := by rw [he]; simp
            have HF := hide (HH2.out he)
            clear he
            go_upto_region 11 with fail
            go_quiet (fail)
            obtain ⟨wz, hwz⟩ : ∃ wz, wr.drewN nq = wz := ⟨_, rfl⟩
            have hbz : Below wr.heap.size wr wz := by rw [← hwz]; exact ⟨rfl, rfl, rfl, Nat.le_refl _, fun _ _ => rfl⟩
            rw [hwz]
            clear hwz s0 s1 sl
            have s0 := (HS6.out.below (below_next H6Q.out hbz)).cell 0
            have s1 := (HS6.out.below (below_next H6Q.out hbz)).cell 1
            have sl := (HS6.out.below (below_next H6Q.out hbz)).lt
            have HBN := hide (below_next HBQ.out hbz)
            clear x6 xl f0 hb2
            go_wp2_with fail
            go_ret2
            exact ⟨by rw [HF.out]; rfl, below_next HB0.out HBN.out⟩
          · have h1 : (cn2.toList == cn.toList) = false := beq_eq_false_iff_ne.2 (fun h => he ((toList_eq_iff _ _).1 h))
            have HN := hide (HN2.out he)
            clear he
            go_upto_region 11 with fail
            go_quiet (fail)
            go_wp2_with fail
            go_roundg (k - (j + 1))
            case measure => rw [hv.out]; omega
            case rel => exact ⟨j + 1, hide rfl, by go_num, hide ⟨hltj, HBQ2.out.trans ⟨rfl, rfl, rfl, Nat.le_refl _, fun _ _ => rfl⟩, HN.out⟩⟩
        · have hltji : ¬ (j : Int) < (k : Int) := by omega
          have HMB := hide (show inB cn (metB d k) = false by
            rw [Bool.eq_false_iff, Ne, inB_iff]
            unfold metB
            intro h
            obtain ⟨x, hx, he⟩ := List.mem_map.1 h
            obtain ⟨i, hi, rfl⟩ := List.mem_iff_getElem.1 hx
            rw [List.length_take] at hi
            rw [List.getElem_take] at he
            exact hq.out.2.2 i (by omega) (by omega) he)
          have HFT := hide (HFI.out ki hki HCX.out HMB.out)
          clear hq hltj hjl hv HMB HEA HFI HNG
          obtain ⟨bp, op, rfl, hbp, hatp⟩ := (HD.out.below HBQ.out).p.get hki
          have hxp := hatp ki hki
          have hps := HSL.out _ (List.getElem_mem hki)
          generalize d.prods[ki] = p at hxp HFT hps
          clear hatp
          obtain ⟨plx, pso, pcn, pbr, psy⟩ := p
          obtain ⟨as_, cs_, ⟨_, _, _, _, f4⟩, hrowp⟩ := hxp.cells
          have HRP := hide hrowp
          have hps : psy.length ≤ 10000 := hps
          clear hxp hrowp
          have hkii : (ki : Int) < (d.prods.length : Int) := by omega
          have hki0 : (0 : Int) ≤ (ki : Int) := by omega
          have x2 := (HX0.out.below HBQ.out).cell 2
          have HRT := hide (show Rit its by
            obtain ⟨kk, hk⟩ := Option.isSome_iff_exists.1 HRX.out
            exact ⟨64, kk, hk, by decide, by decide⟩)
          have HLV := hide (leaves_all _ its (Nat.lt_succ_self _) HRT.out ai ci wr.drew (HIT.out.below ItAt.stable HBQ.out.drew))
          go_upto_region 13 with fail
          refine wp_region_lex 10 [(0, true), (1, true), (3, true), (4, true), (5, true), (6, true), (7, true), (8, true), (2, false), (9, true)] (fun W => (W.cell? ⟨kp, 1, none⟩ = some (.slice ai its.length ci) ∧ kp < W.heap.size ∧ W.cell? ⟨kx, 2, none⟩ = some (.slice (some ⟨bp, op, none⟩) d.prods.length c2) ∧ kx < W.heap.size ∧ W.cell? ⟨bp, op + ki * 5 + 4, none⟩ = some (.slice as_ psy.length cs_) ∧ bp < W.heap.size)) rfl (by kernel_rfl) (by kernel_rfl) (fun _ _ d _ _ h => by cases d <;> exact h) ⟨s1, sl, x2, xl, f4, hbp⟩ (fun hS0 => ?_)
          simp only [lexOps, List.filterMap_cons, List.filterMap_nil, List.getElem?_cons_zero, List.getElem?_cons_succ, Option.map_some, List.drop_succ_cons, List.drop_zero]
          repeat
            refine wpLex_take (v := ?_) (by rfl) ?_ ?_
            rotate_left
            · intro w hSw
              (try dsimp only at hSw)
              go_simp
              try with_reducible rfl
            try simp only [Act.put, List.setIfInBounds_toArray, List.set_cons_zero, List.set_cons_succ]
          refine wpLex_step (fun K hK => ?_)
          go_simp
          refine HLV.out.mono ?_
          rintro e w7 ⟨a7, c7, rfl, h7⟩
          have hb7 := below_next (Below.refl wr.heap.size wr).drew h7.out.2.2
          have HB7 := hide (below_next HBQ.out hb7)
          have H67 := hide (below_next H6Q.out hb7)
          refine hK _ _ ⟨(HS6.out.below H67.out).cell 1, (HS6.out.below H67.out).lt, (HX0.out.below HB7.out).cell 2, (HX0.out.below HB7.out).lt, (hb7.cell (p := ⟨bp, op + ki * 5 + 4, none⟩) hbp).trans f4, Nat.lt_of_lt_of_le hbp hb7.size⟩ (fun hS1 => ?_)
          try simp only [Act.put, List.setIfInBounds_toArray, List.set_cons_zero, List.set_cons_succ]
          repeat
            refine wpLex_take (v := ?_) (by rfl) ?_ ?_
            rotate_left
            · intro w hSw
              (try dsimp only at hSw)
              go_simp
              try with_reducible rfl
            try simp only [Act.put, List.setIfInBounds_toArray, List.set_cons_zero, List.set_cons_succ]
          refine wpLex_nil ?_
          have HR7 := hide (lf_row h7.out.1 h7.out.2.1 (by have := HRT.out.len; omega))
          have HP7 := hide (HRP.out.below SyAt.stable hb7)
          have hl64 := HRT.out.len
          have HFS := hide (fitOk_step ⟨plx, pso, pcn, pbr, psy⟩ its HRX.out)
          have HFL := hide (fit_no_len ⟨plx, pso, pcn, pbr, psy⟩ its HRX.out)
          replace HFS := hide (show fitOk ⟨plx, pso, pcn, pbr, psy⟩ its = okR (stepL (lvIs its) psy 0) from HFS.out)
          replace HFL := hide (show (lvIs its).length ≠ psy.length → fitOk ⟨plx, pso, pcn, pbr, psy⟩ its = false from HFL.out)
          clear hS0 hS1 hb7 h7 s0 s1 sl x2 x6 xl f4 hbp HIT HRT HLV
          obtain ⟨L, hL⟩ : ∃ L, lvIs its = L := ⟨_, rfl⟩
          rw [hL] at HR7 hl64 HFS HFL ⊢
          clear hL
          by_cases hnl : L.length = psy.length
          case neg =>
            have n1 : ((L.length : Int) != (psy.length : Int)) = true := by rw [bne_iff_ne]; omega
            have n2 : (L.length != psy.length) = true := by rw [bne_iff_ne]; exact hnl
            have HF := hide (HHI.out (by rw [HFT.out, HFL.out hnl]; rfl))
            have HBN := hide HB7.out
            clear hnl
            have s0 := (HS6.out.below H67.out).cell 0
            have s1 := (HS6.out.below H67.out).cell 1
            have sl := (HS6.out.below H67.out).lt
            go_wp2_with fail
            go_ret2
            exact ⟨by rw [HF.out]; rfl, below_next HB0.out HBN.out⟩
          have n1 : ((L.length : Int) != (psy.length : Int)) = false := by rw [hnl]; simp
          have n2 : (L.length != psy.length) = false := by rw [hnl]; simp
          have HNL := hide hnl
          clear hnl HFL
          go_wp2_with fail
          clear n1 n2
          obtain ⟨wp, rfl⟩ : ∃ wp : World, wp = w7 := ⟨_, rfl⟩
          go_loopg [10, 11] L.length (fun u v10 v11 wr => ∃ (j h : Nat), Hid (u = L.length - j) ∧ v11 = .int .i64 (j : Int) ∧ v10 = .int .i64 (h : Int) ∧ Hid (j ≤ L.length ∧ h ≤ j ∧ Below wp.heap.size wp wr ∧ stepL (L.take j) psy 0 = some (psy.drop j, (h : Int))))
          case atStart => exact ⟨0, 0, hide rfl, rfl, rfl, hide ⟨Nat.zero_le _, Nat.le_refl _, Below.refl _ _, by rw [List.take_zero, List.drop_zero, stepL]; rfl⟩⟩
          case round =>
            obtain ⟨j, h, hv, rfl, rfl, hq⟩ := hrel
            have hjl := hq.out.1
            have hhj := hq.out.2.1
            have HBQ := hide (below_next HB7.out hq.out.2.2.1)
            have H6Q := hide (below_next H67.out hq.out.2.2.1)
            by_cases hltj : j < L.length
            · have hltji : (j : Int) < (L.length : Int) := by omega
              have hjs : j < psy.length := by rw [← HNL.out]; exact hltj
              have hjsi : (j : Int) < (psy.length : Int) := by omega
              have hj0 : (0 : Int) ≤ (j : Int) := by omega
              obtain ⟨bl, ol, rfl, hbl, hatl⟩ := (HR7.out.below LfAt.stable hq.out.2.2.1).get hltj
              have hxl := hatl j hltj
              obtain ⟨bs, os, rfl, hbs, hats⟩ := (HP7.out.below SyAt.stable hq.out.2.2.1).get hjs
              have hxs := hats j hjs
              have HST := hide (step_at hltj hjs hq.out.2.2.2)
              have HSN := hide (fun he => step_none (l := L) (sy := psy) (j := j + 1) hltj he)
              have HBO := hide hq.out.2.2.1
              generalize psy[j] = s at hxs HST
              generalize L[j] = y at hxl HST
              clear hatl hats hq
              obtain ⟨kd, t, st, nm, sp⟩ := s
              obtain ⟨yk, yt, yn, yl⟩ := y
              obtain ⟨f0, f1, f2, f3, f4, f5, f6, f7⟩ := hxs.cells
              have hyk := hxl.1
              have g0 : wr.cell? ⟨bl, ol + j * 4, none⟩ = some (.int .i64 yk) := hxl.2 0 _ rfl
              have g1 : wr.cell? ⟨bl, ol + j * 4 + 1, none⟩ = some (.string yt) := hxl.2 1 _ rfl
              have g2 : wr.cell? ⟨bl, ol + j * 4 + 2, none⟩ = some (.int .i64 yn) := hxl.2 2 _ rfl
              clear hxs hxl f2 f3 f4 f5 f6 f7 hyk
              go_upto_region 20 with fail
              obtain ⟨kw, hkw⟩ : ∃ kw, wr.heap.size = kw := ⟨_, rfl⟩
              obtain ⟨w8, h8⟩ : ∃ w8, wr.alloc (.cells #[.int .i64 1, .string t, .int .i64 0, .slice none 0 0] 96) = w8 := ⟨_, rfl⟩
              have hb8 : Below wr.heap.size wr w8 := by rw [← h8]; exact NB.alloc (Below.refl _ _) _
              have HW8 := hide (show Blk w8 kw #[.int .i64 1, .string t, .int .i64 0, .slice none 0 0] 96 by rw [← h8, ← hkw]; exact Blk.new wr _ _)
              have HKW := hide (show wr.heap.size ≤ kw by omega)
              rw [h8, hkw]
              have HG := hide (And.intro g0 (And.intro g1 g2))
              replace f0 := (hb8.cell (p := ⟨bs, os + j * 8, none⟩) hbs).trans f0
              replace g0 := (hb8.cell (p := ⟨bl, ol + j * 4, none⟩) hbl).trans g0
              replace g1 := (hb8.cell (p := ⟨bl, ol + j * 4 + 1, none⟩) hbl).trans g1
              replace g2 := (hb8.cell (p := ⟨bl, ol + j * 4 + 2, none⟩) hbl).trans g2
              have HBL := hide hbl
              have hbs' := Nat.lt_of_lt_of_le hbs hb8.size
              have hbl' := Nat.lt_of_lt_of_le hbl hb8.size
              have HB8 := hide hb8
              clear h8 hkw hb8 hbs f1
              by_cases h1 : kd = 1
              · have k1 : (kd != 1) = false := by rw [h1]; rfl
                replace HST := hide (show stepL (L.take (j + 1)) psy 0 = if litB yk yt yn ⟨kd, t, st, nm, sp⟩ = true then some (psy.drop (j + 1), (h : Int)) else none by rw [HST.out, step_lit (by exact h1)]; rfl)
                clear h1
                have q0 := HW8.out.cell 0
                have q1 := HW8.out.cell 1
                have q2 := HW8.out.cell 2
                have ql := HW8.out.lt
                have HBW := hide HB8.out
                go_upto_region 23 with fail
                clear f0
                by_cases a1 : yk = 1
                case neg =>
                  have c1 : (yk != 1) = true := by simpa using a1
                  have HF := hide (HHI.out (by rw [HFT.out, HFS.out, HSN.out (by rw [HST.out]; rw [show litB yk yt yn ⟨kd, t, st, nm, sp⟩ = false by unfold litB; rw [decide_eq_false a1]; rfl]; rfl)]; rfl))
                  clear a1
                  go_quiet (fail)
                  obtain ⟨wz, hwz⟩ : ∃ wz, w8.drewN nq = wz := ⟨_, rfl⟩
                  have hbz : Below wr.heap.size wr wz := by rw [← hwz]; exact HBW.out.trans ⟨rfl, rfl, rfl, Nat.le_refl _, fun _ _ => rfl⟩
                  rw [hwz]
                  clear hwz q0 q1 q2 ql g0 g1 g2 hbl'
                  have s0 := (HS6.out.below (below_next H6Q.out hbz)).cell 0
                  have sl := (HS6.out.below (below_next H6Q.out hbz)).lt
                  have HBN := hide (below_next HBQ.out hbz)
                  go_wp2_with fail
                  go_ret2
                  exact ⟨by rw [HF.out]; rfl, below_next HB0.out HBN.out⟩
                have c1 : (yk != 1) = false := by rw [a1]; rfl
                by_cases a2 : yt = t
                case neg =>
                  have c2 : (yt.toList == t.toList) = false := beq_eq_false_iff_ne.2 (fun h => a2 ((toList_eq_iff _ _).1 h))
                  have c2n : (!yt.toList == t.toList) = true := by rw [c2]; rfl
                  have HF := hide (HHI.out (by rw [HFT.out, HFS.out, HSN.out (by rw [HST.out]; rw [show litB yk yt yn ⟨kd, t, st, nm, sp⟩ = false by unfold litB; rw [decide_eq_false (show ¬ yt = (Sy.mk kd t st nm sp).text from a2)]; simp]; rfl)]; rfl))
                  clear a1 a2
                  go_quiet (fail)
                  obtain ⟨wz, hwz⟩ : ∃ wz, w8.drewN nq = wz := ⟨_, rfl⟩
                  have hbz : Below wr.heap.size wr wz := by rw [← hwz]; exact HBW.out.trans ⟨rfl, rfl, rfl, Nat.le_refl _, fun _ _ => rfl⟩
                  rw [hwz]
                  clear hwz q0 q1 q2 ql g0 g1 g2 hbl'
                  have s0 := (HS6.out.below (below_next H6Q.out hbz)).cell 0
                  have sl := (HS6.out.below (below_next H6Q.out hbz)).lt
                  have HBN := hide (below_next HBQ.out hbz)
                  go_wp2_with fail
                  go_ret2
                  exact ⟨by rw [HF.out]; rfl, below_next HB0.out HBN.out⟩
                have c2 : (yt.toList == t.toList) = true := by rw [a2]; simp
                have c2n : (!yt.toList == t.toList) = false := by rw [c2]; rfl
                by_cases a3 : yn = 0
                case neg =>
                  have c3 : (yn != 0) = true := by simpa using a3
                  have HF := hide (HHI.out (by rw [HFT.out, HFS.out, HSN.out (by rw [HST.out]; rw [show litB yk yt yn ⟨kd, t, st, nm, sp⟩ = false by unfold litB; rw [decide_eq_false a3]; simp]; rfl)]; rfl))
                  clear a1 a2 a3
                  go_quiet (fail)
                  obtain ⟨wz, hwz⟩ : ∃ wz, w8.drewN nq = wz := ⟨_, rfl⟩
                  have hbz : Below wr.heap.size wr wz := by rw [← hwz]; exact HBW.out.trans ⟨rfl, rfl, rfl, Nat.le_refl _, fun _ _ => rfl⟩
                  rw [hwz]
                  clear hwz q0 q1 q2 ql g0 g1 g2 hbl'
                  have s0 := (HS6.out.below (below_next H6Q.out hbz)).cell 0
                  have sl := (HS6.out.below (below_next H6Q.out hbz)).lt
                  have HBN := hide (below_next HBQ.out hbz)
                  go_wp2_with fail
                  go_ret2
                  exact ⟨by rw [HF.out]; rfl, below_next HB0.out HBN.out⟩
                have c3 : (yn != 0) = false := by rw [a3]; rfl
                have HOK := hide (show litB yk yt yn ⟨kd, t, st, nm, sp⟩ = true by unfold litB; rw [decide_eq_true a1, decide_eq_true (show yt = (Sy.mk kd t st nm sp).text from a2), decide_eq_true a3]; rfl)
                clear a1 a2 a3
                have HSX := hide (show stepL (L.take (j + 1)) psy 0 = some (psy.drop (j + 1), ((h : Nat) : Int)) by rw [HST.out, HOK.out]; rfl)
                have HBZ := hide (show Below wp.heap.size wp (w8.drewN 0) from (below_next HBO.out HBW.out).trans ⟨rfl, rfl, rfl, Nat.le_refl _, fun _ _ => rfl⟩)
                go_quiet (fail)
                go_wp2_with fail
                go_roundg (L.length - (j + 1))
                case measure => rw [hv.out]; omega
                case rel => exact ⟨j + 1, h, hide rfl, by go_num, by go_num, hide ⟨hltj, by omega, HBZ.out.trans ⟨rfl, rfl, rfl, Nat.le_refl _, fun _ _ => rfl⟩, HSX.out⟩⟩
              · have k1 : (kd != 1) = true := by simpa using h1
                replace HST := hide (show stepL (L.take (j + 1)) psy 0 = if holB yk yt yn (h : Int) = true then some (psy.drop (j + 1), (h : Int) + 1) else none by rw [HST.out, step_hol (by exact h1)]; rfl)
                clear h1
                have q0 := HW8.out.cell 0
                have q1 := HW8.out.cell 1
                have q2 := HW8.out.cell 2
                have q3 := HW8.out.cell 3
                have r0 := HW8.out.free 0
                have r1 := HW8.out.free 1
                have r2 := HW8.out.free 2
                have r3 := HW8.out.free 3
                have ql := HW8.out.lt
                go_upto_region 23 with fail
                obtain ⟨w9, h9⟩ : ∃ w9, ((((w8.setCell ⟨kw, 0, none⟩ (.int .i64 2)).setCell ⟨kw, 1, none⟩ (.string ⟨#[]⟩)).setCell ⟨kw, 2, none⟩ (.int .i64 ((h : Int) + 1))).setCell ⟨kw, 3, none⟩ (.slice none 0 0)) = w9 := ⟨_, rfl⟩
                have HBW := hide (show Below wr.heap.size wr w9 by rw [← h9]; exact (((HB8.out.setCell HKW.out _).setCell HKW.out _).setCell HKW.out _).setCell HKW.out _)
                have HW9 := hide (show Blk w9 kw #[.int .i64 2, .string ⟨#[]⟩, .int .i64 ((h : Int) + 1), .slice none 0 0] 96 by rw [← h9]; exact (((HW8.out.set 0 _).set 1 _).set 2 _).set 3 _)
                rw [h9]
                clear h9 f0 q0 q1 q2 q3 r0 r1 r2 r3 ql g0 g1 g2 hbl' hbs'
                have q0 := HW9.out.cell 0
                have q1 := HW9.out.cell 1
                have q2 := HW9.out.cell 2
                have ql := HW9.out.lt
                have g0 := (HBW.out.cell (p := ⟨bl, ol + j * 4, none⟩) HBL.out).trans HG.out.1
                have g1 := (HBW.out.cell (p := ⟨bl, ol + j * 4 + 1, none⟩) HBL.out).trans HG.out.2.1
                have g2 := (HBW.out.cell (p := ⟨bl, ol + j * 4 + 2, none⟩) HBL.out).trans HG.out.2.2
                have hbl' := Nat.lt_of_lt_of_le HBL.out HBW.out.size
                by_cases a1 : yk = 2
                case neg =>
                  have c1 : (yk != 2) = true := by simpa using a1
                  have HF := hide (HHI.out (by rw [HFT.out, HFS.out, HSN.out (by rw [HST.out]; rw [show holB yk yt yn (h : Int) = false by unfold holB; rw [decide_eq_false a1]; rfl]; rfl)]; rfl))
                  clear a1
                  go_quiet (fail)
                  obtain ⟨wz, hwz⟩ : ∃ wz, w9.drewN nq = wz := ⟨_, rfl⟩
                  have hbz : Below wr.heap.size wr wz := by rw [← hwz]; exact HBW.out.trans ⟨rfl, rfl, rfl, Nat.le_refl _, fun _ _ => rfl⟩
                  rw [hwz]
                  clear hwz q0 q1 q2 ql g0 g1 g2 hbl'
                  have s0 := (HS6.out.below (below_next H6Q.out hbz)).cell 0
                  have sl := (HS6.out.below (below_next H6Q.out hbz)).lt
                  have HBN := hide (below_next HBQ.out hbz)
                  go_wp2_with fail
                  go_ret2
                  exact ⟨by rw [HF.out]; rfl, below_next HB0.out HBN.out⟩
                have c1 : (yk != 2) = false := by rw [a1]; rfl
                rcases emp_or yt with ⟨bn, zn, yn', vn, xn⟩ | ⟨bn, zn, yn', vn, xn⟩
                case inr =>
                  have c2 : (yt.toList == []) = false := beq_eq_false_iff_ne.2 xn
                  have c2n : (!yt.toList == []) = true := by rw [c2]; rfl
                  have HF := hide (HHI.out (by rw [HFT.out, HFS.out, HSN.out (by rw [HST.out]; rw [show holB yk yt yn (h : Int) = false by unfold holB; rw [zn.out]; simp]; rfl)]; rfl))
                  clear a1
                  go_quiet (fail)
                  obtain ⟨wz, hwz⟩ : ∃ wz, w9.drewN nq = wz := ⟨_, rfl⟩
                  have hbz : Below wr.heap.size wr wz := by rw [← hwz]; exact HBW.out.trans ⟨rfl, rfl, rfl, Nat.le_refl _, fun _ _ => rfl⟩
                  rw [hwz]
                  clear hwz q0 q1 q2 ql g0 g1 g2 hbl'
                  have s0 := (HS6.out.below (below_next H6Q.out hbz)).cell 0
                  have sl := (HS6.out.below (below_next H6Q.out hbz)).lt
                  have HBN := hide (below_next HBQ.out hbz)
                  go_wp2_with fail
                  go_ret2
                  exact ⟨by rw [HF.out]; rfl, below_next HB0.out HBN.out⟩
                have c2 : (yt.toList == []) = true := by rw [xn]; rfl
                have c2n : (!yt.toList == []) = false := by rw [c2]; rfl
                by_cases a3 : yn = (h : Int) + 1
                case neg =>
                  have c3 : (yn != (h : Int) + 1) = true := by simpa using a3
                  have HF := hide (HHI.out (by rw [HFT.out, HFS.out, HSN.out (by rw [HST.out]; rw [show holB yk yt yn (h : Int) = false by unfold holB; rw [decide_eq_false a3]; simp]; rfl)]; rfl))
                  clear a1 a3
                  go_quiet (fail)
                  obtain ⟨wz, hwz⟩ : ∃ wz, w9.drewN nq = wz := ⟨_, rfl⟩
                  have hbz : Below wr.heap.size wr wz := by rw [← hwz]; exact HBW.out.trans ⟨rfl, rfl, rfl, Nat.le_refl _, fun _ _ => rfl⟩
                  rw [hwz]
                  clear hwz q0 q1 q2 ql g0 g1 g2 hbl'
                  have s0 := (HS6.out.below (below_next H6Q.out hbz)).cell 0
                  have sl := (HS6.out.below (below_next H6Q.out hbz)).lt
                  have HBN := hide (below_next HBQ.out hbz)
                  go_wp2_with fail
                  go_ret2
                  exact ⟨by rw [HF.out]; rfl, below_next HB0.out HBN.out⟩
                have c3 : (yn != (h : Int) + 1) = false := by rw [a3]; simp
                have HOK := hide (show holB yk yt yn (h : Int) = true by unfold holB; rw [decide_eq_true a1, zn.out, decide_eq_true a3]; rfl)
                clear a1 a3
                have HSX := hide (show stepL (L.take (j + 1)) psy 0 = some (psy.drop (j + 1), ((h + 1 : Nat) : Int)) by rw [HST.out, HOK.out]; rfl)
                have HBZ := hide (show Below wp.heap.size wp (w9.drewN 0) from (below_next HBO.out HBW.out).trans ⟨rfl, rfl, rfl, Nat.le_refl _, fun _ _ => rfl⟩)
                go_quiet (fail)
                go_wp2_with fail
                go_roundg (L.length - (j + 1))
                case measure => rw [hv.out]; omega
                case rel => exact ⟨j + 1, h + 1, hide rfl, by go_num, by go_num, hide ⟨hltj, by omega, HBZ.out.trans ⟨rfl, rfl, rfl, Nat.le_refl _, fun _ _ => rfl⟩, HSX.out⟩⟩
            · have hltji : ¬ (j : Int) < (L.length : Int) := by omega
              have HN := hide (HNX.out (by
                rw [HFT.out, HFS.out]
                have h1 := hq.out.2.2.2
                rw [List.take_of_length_le (by omega)] at h1
                rw [h1, List.drop_eq_nil_of_le (by have := HNL.out; omega)]
                rfl))
              have HBN := hide HBQ.out
              clear hq
              go_wp2_with fail
              go_roundg (d.boxes.length - (k + 1))
              case measure => rw [hu.out]; omega
              case rel => exact ⟨k + 1, hide rfl, by go_num, hide ⟨hlt, HBN.out, HN.out⟩⟩
    · have hlti : ¬ (k : Int) < (d.boxes.length : Int) := by omega
      have HF := hide (show res = toldV okL by
        rw [← HRES.out]
        unfold boxL
        rw [firstI_miss 52 _ _ d.boxes 0 (fun j h => hh.out.2.2 j h (by omega))])
      have HBN := hide hh.out.2.1
      go_wp2_with fail
      go_ret2
      exact ⟨by rw [HF.out]; rfl, below_next HB0.out HBN.out⟩
end Go.Proofs.Ytalicfpcmcbdbaa

set_option linter.unusedVariables false
set_option linter.unusedSimpArgs false
set_option linter.unnecessarySimpa false
set_option linter.deprecated false
namespace Go.Proofs.Ytalicfpcmcbdbaa
open Go.RowKit

set_option maxHeartbeats 1600000 in
set_option maxRecDepth 100000 in
theorem prios_any (d : Df) (a2 : Option Addr) (c2 : Nat) (a3 : Option Addr) (c3 : Nat) (a4 : Option Addr) (c4 : Nat) (a5 : Option Addr) (c5 : Nat) (a6 : Option Addr) (c6 : Nat) (w : World) (hd : RD d ⟨a2, c2, a3, c3, a4, c4, a5, c5, a6, c6⟩ w) (hct : ∀ ch ∈ d.chains, (chainN ch).length ≤ 99999) : Calls Try.prog 52 #[.agg #[.string d.start, .string d.layout, .slice a2 d.prods.length c2, .slice a3 d.chains.length c3, .slice a4 d.follows.length c4, .slice a5 d.rejects.length c5, .slice a6 d.boxes.length c6]] w fun e w' => e = .returned (toldV (prioL d)) ∧ Below w.heap.size w w' := by
  obtain ⟨i0, hi, hz0, hz1, hz2⟩ := info_parts info9
  have HCT := hide hct
  have hl3 := hd.c.1
  clear hct
  have HD := hide hd
  obtain ⟨res, hres⟩ : ∃ r, toldV (prioL d) = r := ⟨_, rfl⟩
  rw [hres]
  have HRES := hide hres
  clear hres hd
  go_enter Try.func52, Try.ntmps52
  go_upto_region 1 with fail
  obtain ⟨kx, hkx⟩ : ∃ kx, w.heap.size = kx := ⟨_, rfl⟩
  obtain ⟨w1, h1⟩ : ∃ w1, w.alloc (.cells #[.string d.start, .string d.layout, .slice a2 d.prods.length c2, .slice a3 d.chains.length c3, .slice a4 d.follows.length c4, .slice a5 d.rejects.length c5, .slice a6 d.boxes.length c6] 28) = w1 := ⟨_, rfl⟩
  have HB0 := hide (show Below w.heap.size w w1 by rw [← h1]; exact NB.alloc (Below.refl _ _) _)
  have HX0 := hide (show Blk w1 kx #[.string d.start, .string d.layout, .slice a2 d.prods.length c2, .slice a3 d.chains.length c3, .slice a4 d.follows.length c4, .slice a5 d.rejects.length c5, .slice a6 d.boxes.length c6] 28 by rw [← h1, ← hkx]; exact Blk.new w _ _)
  replace HD := hide (HD.out.below HB0.out)
  rw [h1, hkx]
  clear h1 hkx
  go_wp2_with fail
  go_loopg [4] d.chains.length (fun u v4 wr => ∃ k : Nat, Hid (u = d.chains.length - k) ∧ v4 = .int .i64 (k : Int) ∧ Hid (k ≤ d.chains.length ∧ Below w1.heap.size w1 wr ∧ ∀ j (h : j < d.chains.length), j < k → prioF d d.chains[j] = none))
  case atStart => exact ⟨0, hide rfl, rfl, hide ⟨Nat.zero_le _, Below.refl _ _, fun _ _ h => absurd h (Nat.not_lt_zero _)⟩⟩
  case round =>
    obtain ⟨k, hu, rfl, hh⟩ := hrel
    have hkl := hh.out.1
    have HBR := hide hh.out.2.1
    have x3 := (HX0.out.below HBR.out).cell 3
    have xl := (HX0.out.below HBR.out).lt
    by_cases hlt : k < d.chains.length
    · have hlti : (k : Int) < (d.chains.length : Int) := by omega
      obtain ⟨b, o, rfl, hb, hat⟩ := HD.out.c.get hlt
      have hx := hat k hlt
      rw [Nat.mul_one] at hx
      have HNX := hide (fun (hf : prioF d d.chains[k] = none) => (show ∀ j (h : j < d.chains.length), j < k + 1 → prioF d d.chains[j] = none from fun j h hj => by
        by_cases e : j = k
        · subst e; exact hf
        · exact hh.out.2.2 j h (by omega)))
      have HHI := hide (fun s (ht : prioF d d.chains[k] = some s) => (show res = toldV (50, s) by
        rw [← HRES.out]
        unfold prioL
        rw [prioG_hit _ s d.chains k hlt hh.out.2.2 ht]))
      have HCL := hide (HCT.out _ (List.getElem_mem hlt))
      generalize d.chains[k] = ch at hx HNX HHI HCL
      obtain ⟨ac, cc, e0, hrow⟩ := hx
      have HRC := hide hrow
      have hcl := hrow.1
      have HE0 := hide e0
      have HBB := hide hb
      clear hat hh hrow
      replace e0 := (HBR.out.cell (p := ⟨b, o + k, none⟩) HBB.out).trans HE0.out
      replace hb := Nat.lt_of_lt_of_le HBB.out HBR.out.size
      go_wp2_with fail
      go_loopg [5, 6] ch.length (fun u v5 v6 wr => ∃ g : Nat, Hid (u = ch.length - g) ∧ v6 = .int .i64 (g : Int) ∧ Hid (g ≤ ch.length ∧ Below w1.heap.size w1 wr ∧ OwnS w1.heap.size v5 (chainN (ch.take g)) wr ∧ dupO (badC d) (chainN (ch.take g)) [] = none))
      case atStart => exact ⟨0, hide rfl, rfl, hide ⟨Nat.zero_le _, HBR.out, by rw [List.take_zero]; exact OwnS.nil _ _, by rw [List.take_zero]; rfl⟩⟩
      case round =>
        obtain ⟨g, hv, rfl, hq⟩ := hrel
        have hgl := hq.out.1
        have HBQ := hide hq.out.2.1
        clear x3 xl e0 hb
        have x3 := (HX0.out.below HBQ.out).cell 3
        have xl := (HX0.out.below HBQ.out).lt
        have e0 := (HBQ.out.cell (p := ⟨b, o + k, none⟩) HBB.out).trans HE0.out
        have hb := Nat.lt_of_lt_of_le HBB.out HBQ.out.size
        by_cases hltg : g < ch.length
        · have hltgi : (g : Int) < (ch.length : Int) := by omega
          obtain ⟨bg, og, rfl, hbg, hatg⟩ := HRC.out.get hltg
          have hxg := hatg g hltg
          have HSN := hide (chainN_snoc ch g hltg)
          have HSP := hide (fun i hi => chainN_split ch g i hltg hi)
          have HGL := hide (show (chainN (ch.take g)).length + (ch[g]).cons.length ≤ 99999 by
            have h1 := congrArg List.length (chainN_snoc ch g hltg)
            have h2 : (chainN (ch.take (g + 1))).length ≤ (chainN ch).length := flat_take_le Gp.cons ch (g + 1)
            rw [List.length_append] at h1
            have := HCL.out
            omega)
          have HPG := hide (show ∃ p, ch[g] = p ∧ GpAt p bg (og + g * 2) w1 from ⟨_, rfl, hxg⟩)
          obtain ⟨p, hp, hxg⟩ := HPG.out
          rw [hp] at HSN HGL
          replace HSP := hide (show ∀ i (hi : i < p.cons.length), ∃ r, chainN ch = (chainN (ch.take g) ++ p.cons.take i) ++ p.cons[i] :: r from by subst hp; exact HSP.out)
          obtain ⟨ag, cg, ⟨g0, g1⟩, hrg⟩ := hxg.cells
          have HRG := hide hrg
          have hgn := hrg.1
          obtain ⟨Y, hY⟩ : ∃ Y, chainN (ch.take g) = Y := ⟨_, rfl⟩
          rw [hY] at HSN HGL HSP hq
          have HOY := hide hq.out.2.2.1
          have HDY := hide hq.out.2.2.2
          clear hatg hp hxg hrg hq hY HPG
          replace g0 := (HBQ.out.cell (p := ⟨bg, og + g * 2, none⟩) hbg).trans g0
          replace g1 := (HBQ.out.cell (p := ⟨bg, og + g * 2 + 1, none⟩) hbg).trans g1
          replace hbg := Nat.lt_of_lt_of_le hbg HBQ.out.size
          go_wp2_with fail
          go_loopg [5, 8] p.cons.length (fun u v5 v8 wr => ∃ i : Nat, Hid (u = p.cons.length - i) ∧ v8 = .int .i64 (i : Int) ∧ Hid (i ≤ p.cons.length ∧ Below w1.heap.size w1 wr ∧ OwnS w1.heap.size v5 (Y ++ p.cons.take i) wr ∧ dupO (badC d) (Y ++ p.cons.take i) [] = none))
          case atStart => exact ⟨0, hide rfl, rfl, hide ⟨Nat.zero_le _, HBQ.out, by rw [List.take_zero, List.append_nil]; exact HOY.out, by rw [List.take_zero, List.append_nil]; exact HDY.out⟩⟩
          case round =>
            obtain ⟨i, hz, rfl, hr⟩ := hrel
            have hil := hr.out.1
            replace HBQ := hide hr.out.2.1
            clear x3 xl e0 hb g0 g1 hbg
            by_cases hlts : i < p.cons.length
            · have hltsi : (i : Int) < (p.cons.length : Int) := by omega
              have hi0 : (0 : Int) ≤ (i : Int) := by omega
              obtain ⟨b3, o3, rfl, hb3, hat3⟩ := (HRG.out.below StrAt.stable HBQ.out).get hlts
              have hx3 := hat3 i hlts
              rw [Nat.mul_one] at hx3
              obtain ⟨r, hr9⟩ := HSP.out i hlts
              have HDH := hide (fun (hb : (badC d p.cons[i] || inB p.cons[i] (Y ++ p.cons.take i)) = true) => HHI.out p.cons[i] (by unfold prioF; rw [hr9]; exact dupO_hit _ _ _ _ hr.out.2.2.2 hb))
              have HDN := hide (fun (hb : (badC d p.cons[i] || inB p.cons[i] (Y ++ p.cons.take i)) = false) => (show dupO (badC d) (Y ++ p.cons.take (i + 1)) [] = none by
                rw [take_snoc p.cons i hlts, ← List.append_assoc]
                exact dupO_snoc _ _ _ hr.out.2.2.2 hb))
              have HTK := hide (show Y ++ p.cons.take (i + 1) = (Y ++ p.cons.take i) ++ [p.cons[i]] by rw [take_snoc p.cons i hlts, ← List.append_assoc])
              have hXL : (Y ++ p.cons.take i).length ≤ 99999 := by have := HGL.out; rw [List.length_append, List.length_take]; omega
              have HOX := hide hr.out.2.2.1
              have hwb := HBQ.out.size
              clear hr9
              generalize p.cons[i] = n at hx3 HDH HDN HTK
              have f0 := hx3.2
              have HSH := hide hx3.1
              obtain ⟨X, hX⟩ : ∃ X, Y ++ p.cons.take i = X := ⟨_, rfl⟩
              rw [hX] at HDH HDN HTK hXL HOX
              obtain ⟨a9, c9, rfl, hr9⟩ := HOX.out.row (by omega)
              have HR9 := hide hr9
              have HOW := hide HOX.out
              clear hat3 hx3 hr hX hr9 HOX
              have x0 := (HX0.out.below HBQ.out).cell 0
              have x1 := (HX0.out.below HBQ.out).cell 1
              have x2 := (HX0.out.below HBQ.out).cell 2
              have x3 := (HX0.out.below HBQ.out).cell 3
              have x4 := (HX0.out.below HBQ.out).cell 4
              have x5 := (HX0.out.below HBQ.out).cell 5
              have x6 := (HX0.out.below HBQ.out).cell 6
              have xl := (HX0.out.below HBQ.out).lt
              have HCI := hide (rCons_any d a2 c2 (some ⟨b, o, none⟩) c3 a4 c4 a5 c5 a6 c6 n wr.drew (HD.out.below HBQ.out.drew))
              obtain ⟨ci, hci⟩ : ∃ ci, consIdx d.prods n = ci := ⟨_, rfl⟩
              rw [hci] at HCI
              have HBC := hide (show badC d n = decide (ci < 0) by unfold badC; rw [hci])
              clear hci
              go_upto_region 12 with fail
              by_cases hc0 : ci < 0
              · have d0 : decide (ci < 0) = true := decide_eq_true hc0
                have HF := hide (HDH.out (by rw [HBC.out, d0]; rfl))
                clear hc0
                refine wp_region_lex 14 [(0, true), (1, true), (2, true), (3, true), (4, true), (5, false), (6, true), (7, true), (8, true), (9, true), (10, true), (11, true), (12, true), (13, false)] (fun W => (W.cell? ⟨kx, 0, none⟩ = some (.string d.start) ∧ W.cell? ⟨kx, 1, none⟩ = some (.string d.layout) ∧ W.cell? ⟨kx, 2, none⟩ = some (.slice a2 d.prods.length c2) ∧ W.cell? ⟨kx, 3, none⟩ = some (.slice (some ⟨b, o, none⟩) d.chains.length c3) ∧ W.cell? ⟨kx, 4, none⟩ = some (.slice a4 d.follows.length c4) ∧ W.cell? ⟨kx, 5, none⟩ = some (.slice a5 d.rejects.length c5) ∧ W.cell? ⟨kx, 6, none⟩ = some (.slice a6 d.boxes.length c6) ∧ kx < W.heap.size ∧ W.cell? ⟨b3, o3 + i, none⟩ = some (.string n) ∧ b3 < W.heap.size)) rfl (by kernel_rfl) (by kernel_rfl) (fun _ _ d _ _ h => by cases d <;> exact h) ⟨x0, x1, x2, x3, x4, x5, x6, xl, f0, hb3⟩ (fun hS0 => ?_)
                simp only [lexOps, List.filterMap_cons, List.filterMap_nil, List.getElem?_cons_zero, List.getElem?_cons_succ, Option.map_some, List.drop_succ_cons, List.drop_zero]
                repeat
                  first
                  | (refine wpLex_take (v := ?_) (by rfl) ?_ ?_
                     rotate_left
                     · intro w hSw
                       (try dsimp only at hSw)
                       go_simp
                       try with_reducible rfl
                     try simp only [Act.put, List.setIfInBounds_toArray, List.set_cons_zero, List.set_cons_succ])
                  | (refine wpLex_skip (by rfl) ?_
                     try simp only [Act.put, List.setIfInBounds_toArray, List.set_cons_zero, List.set_cons_succ])
                refine wpLex_step (fun K hK => ?_)
                go_simp
                refine (HCI.out).mono ?_
                rintro e w7 ⟨rfl, hb7⟩
                replace hb7 := below_next (Below.refl wr.heap.size wr).drew hb7
                have HB7 := hide (below_next HBQ.out hb7)
                have HOW7 := hide (HOW.out.below hb7)
                have f0' := (hb7.cell (p := ⟨b3, o3 + i, none⟩) hb3).trans f0
                have hb3' := Nat.lt_of_lt_of_le hb3 hb7.size
                have hx7 := HX0.out.below HB7.out
                refine hK _ _ ⟨hx7.cell 0, hx7.cell 1, hx7.cell 2, hx7.cell 3, hx7.cell 4, hx7.cell 5, hx7.cell 6, hx7.lt, f0', hb3'⟩ (fun hS1 => ?_)
                try simp only [Act.put, List.setIfInBounds_toArray, List.set_cons_zero, List.set_cons_succ]
                repeat
                  first
                  | (refine wpLex_take (v := ?_) (by rfl) ?_ ?_
                     rotate_left
                     · intro w hSw
                       (try dsimp only at hSw)
                       go_simp
                       try with_reducible rfl
                     try simp only [Act.put, List.setIfInBounds_toArray, List.set_cons_zero, List.set_cons_succ])
                  | (refine wpLex_skip (by rfl) ?_
                     try simp only [Act.put, List.setIfInBounds_toArray, List.set_cons_zero, List.set_cons_succ])
                refine wpLex_step (fun K hK => ?_)
                go_simp
                refine hK _ _ hS1 (fun hS2 => ?_)
                try simp only [Act.put, List.setIfInBounds_toArray, List.set_cons_zero, List.set_cons_succ]
                refine wpLex_nil ?_
                clear hS0 hS1 hS2 x0 x1 x2 x3 x4 x5 x6 xl f0 hb3 hx7
                have f0 := f0'
                have hb3 := hb3'
                go_wp2_with fail
                go_ret2
                exact ⟨by rw [HF.out]; rfl, below_next HB0.out HB7.out⟩
              · have d0 : decide (ci < 0) = false := decide_eq_false hc0
                have HCF := hide d0
                clear hc0
                cases hin : inB n X with
                | true =>
                  have HF := hide (HDH.out (by rw [hin]; simp))
                  refine wp_region_lex 14 [(0, true), (1, true), (2, true), (3, true), (4, true), (5, false), (6, true), (7, true), (8, true), (9, true), (10, true), (11, true), (12, true), (13, false)] (fun W => (W.cell? ⟨kx, 0, none⟩ = some (.string d.start) ∧ W.cell? ⟨kx, 1, none⟩ = some (.string d.layout) ∧ W.cell? ⟨kx, 2, none⟩ = some (.slice a2 d.prods.length c2) ∧ W.cell? ⟨kx, 3, none⟩ = some (.slice (some ⟨b, o, none⟩) d.chains.length c3) ∧ W.cell? ⟨kx, 4, none⟩ = some (.slice a4 d.follows.length c4) ∧ W.cell? ⟨kx, 5, none⟩ = some (.slice a5 d.rejects.length c5) ∧ W.cell? ⟨kx, 6, none⟩ = some (.slice a6 d.boxes.length c6) ∧ kx < W.heap.size ∧ W.cell? ⟨b3, o3 + i, none⟩ = some (.string n) ∧ b3 < W.heap.size)) rfl (by kernel_rfl) (by kernel_rfl) (fun _ _ d _ _ h => by cases d <;> exact h) ⟨x0, x1, x2, x3, x4, x5, x6, xl, f0, hb3⟩ (fun hS0 => ?_)
                  simp only [lexOps, List.filterMap_cons, List.filterMap_nil, List.getElem?_cons_zero, List.getElem?_cons_succ, Option.map_some, List.drop_succ_cons, List.drop_zero]
                  repeat
                    first
                    | (refine wpLex_take (v := ?_) (by rfl) ?_ ?_
                       rotate_left
                       · intro w hSw
                         (try dsimp only at hSw)
                         go_simp
                         try with_reducible rfl
                       try simp only [Act.put, List.setIfInBounds_toArray, List.set_cons_zero, List.set_cons_succ])
                    | (refine wpLex_skip (by rfl) ?_
                       try simp only [Act.put, List.setIfInBounds_toArray, List.set_cons_zero, List.set_cons_succ])
                  refine wpLex_step (fun K hK => ?_)
                  go_simp
                  refine (HCI.out).mono ?_
                  rintro e w7 ⟨rfl, hb7⟩
                  replace hb7 := below_next (Below.refl wr.heap.size wr).drew hb7
                  have HB7 := hide (below_next HBQ.out hb7)
                  have HOW7 := hide (HOW.out.below hb7)
                  have f0' := (hb7.cell (p := ⟨b3, o3 + i, none⟩) hb3).trans f0
                  have hb3' := Nat.lt_of_lt_of_le hb3 hb7.size
                  have hx7 := HX0.out.below HB7.out
                  have HIN := hide (rIn_any X n a9 c9 w7 (HR9.out.below StrAt.stable hb7))
                  rw [hin] at HIN
                  refine hK _ _ ⟨hx7.cell 0, hx7.cell 1, hx7.cell 2, hx7.cell 3, hx7.cell 4, hx7.cell 5, hx7.cell 6, hx7.lt, f0', hb3'⟩ (fun hS1 => ?_)
                  try simp only [Act.put, List.setIfInBounds_toArray, List.set_cons_zero, List.set_cons_succ]
                  repeat
                    first
                    | (refine wpLex_take (v := ?_) (by rfl) ?_ ?_
                       rotate_left
                       · intro w hSw
                         (try dsimp only at hSw)
                         go_simp
                         try with_reducible rfl
                       try simp only [Act.put, List.setIfInBounds_toArray, List.set_cons_zero, List.set_cons_succ])
                    | (refine wpLex_skip (by rfl) ?_
                       try simp only [Act.put, List.setIfInBounds_toArray, List.set_cons_zero, List.set_cons_succ])
                  refine wpLex_step (fun K hK => ?_)
                  go_simp
                  refine HIN.out.mono ?_
                  rintro e w8 ⟨rfl, rfl⟩
                  refine hK _ _ hS1 (fun hS2 => ?_)
                  try simp only [Act.put, List.setIfInBounds_toArray, List.set_cons_zero, List.set_cons_succ]
                  refine wpLex_nil ?_
                  clear hS0 hS1 hS2 x0 x1 x2 x3 x4 x5 x6 xl f0 hb3 hx7
                  have f0 := f0'
                  have hb3 := hb3'
                  go_wp2_with fail
                  go_ret2
                  exact ⟨by rw [HF.out]; rfl, below_next HB0.out HB7.out⟩
                | false =>
                  have HDX := hide (HDN.out (by rw [HBC.out, HCF.out, hin]; rfl))
                  refine wp_region_lex 14 [(0, true), (1, true), (2, true), (3, true), (4, true), (5, false), (6, true), (7, true), (8, true), (9, true), (10, true), (11, true), (12, true), (13, false)] (fun W => (W.cell? ⟨kx, 0, none⟩ = some (.string d.start) ∧ W.cell? ⟨kx, 1, none⟩ = some (.string d.layout) ∧ W.cell? ⟨kx, 2, none⟩ = some (.slice a2 d.prods.length c2) ∧ W.cell? ⟨kx, 3, none⟩ = some (.slice (some ⟨b, o, none⟩) d.chains.length c3) ∧ W.cell? ⟨kx, 4, none⟩ = some (.slice a4 d.follows.length c4) ∧ W.cell? ⟨kx, 5, none⟩ = some (.slice a5 d.rejects.length c5) ∧ W.cell? ⟨kx, 6, none⟩ = some (.slice a6 d.boxes.length c6) ∧ kx < W.heap.size ∧ W.cell? ⟨b3, o3 + i, none⟩ = some (.string n) ∧ b3 < W.heap.size)) rfl (by kernel_rfl) (by kernel_rfl) (fun _ _ d _ _ h => by cases d <;> exact h) ⟨x0, x1, x2, x3, x4, x5, x6, xl, f0, hb3⟩ (fun hS0 => ?_)
                  simp only [lexOps, List.filterMap_cons, List.filterMap_nil, List.getElem?_cons_zero, List.getElem?_cons_succ, Option.map_some, List.drop_succ_cons, List.drop_zero]
                  repeat
                    first
                    | (refine wpLex_take (v := ?_) (by rfl) ?_ ?_
                       rotate_left
                       · intro w hSw
                         (try dsimp only at hSw)
                         go_simp
                         try with_reducible rfl
                       try simp only [Act.put, List.setIfInBounds_toArray, List.set_cons_zero, List.set_cons_succ])
                    | (refine wpLex_skip (by rfl) ?_
                       try simp only [Act.put, List.setIfInBounds_toArray, List.set_cons_zero, List.set_cons_succ])
                  refine wpLex_step (fun K hK => ?_)
                  go_simp
                  refine (HCI.out).mono ?_
                  rintro e w7 ⟨rfl, hb7⟩
                  replace hb7 := below_next (Below.refl wr.heap.size wr).drew hb7
                  have HB7 := hide (below_next HBQ.out hb7)
                  have HOW7 := hide (HOW.out.below hb7)
                  have f0' := (hb7.cell (p := ⟨b3, o3 + i, none⟩) hb3).trans f0
                  have hb3' := Nat.lt_of_lt_of_le hb3 hb7.size
                  have hx7 := HX0.out.below HB7.out
                  have HIN := hide (rIn_any X n a9 c9 w7 (HR9.out.below StrAt.stable hb7))
                  rw [hin] at HIN
                  refine hK _ _ ⟨hx7.cell 0, hx7.cell 1, hx7.cell 2, hx7.cell 3, hx7.cell 4, hx7.cell 5, hx7.cell 6, hx7.lt, f0', hb3'⟩ (fun hS1 => ?_)
                  try simp only [Act.put, List.setIfInBounds_toArray, List.set_cons_zero, List.set_cons_succ]
                  repeat
                    first
                    | (refine wpLex_take (v := ?_) (by rfl) ?_ ?_
                       rotate_left
                       · intro w hSw
                         (try dsimp only at hSw)
                         go_simp
                         try with_reducible rfl
                       try simp only [Act.put, List.setIfInBounds_toArray, List.set_cons_zero, List.set_cons_succ])
                    | (refine wpLex_skip (by rfl) ?_
                       try simp only [Act.put, List.setIfInBounds_toArray, List.set_cons_zero, List.set_cons_succ])
                  refine wpLex_step (fun K hK => ?_)
                  go_simp
                  refine HIN.out.mono ?_
                  rintro e w8 ⟨rfl, rfl⟩
                  refine hK _ _ hS1 (fun hS2 => ?_)
                  try simp only [Act.put, List.setIfInBounds_toArray, List.set_cons_zero, List.set_cons_succ]
                  refine wpLex_nil ?_
                  clear hS0 hS1 hS2 x0 x1 x2 x3 x4 x5 x6 xl f0 hb3 hx7
                  have f0 := f0'
                  have hb3 := hb3'
                  have hwb7 := HB7.out.size
                  go_wp2_with (at_builtin; refine wpList_append_own _ rfl _ _ 56 rfl w1.heap.size 9 i0 (.string ⟨#[]⟩) 1 16 Try.underlying56 hi hz0 hz1 hz2 rfl (by decide) _ _ (strsC X) rfl (HOW7.out.1.alloc _) ⟨w7.heap.size, 0, none⟩ 1 1 [.string n] rfl rfl (cells_at _ _ _ _ rfl) (by intro y hy; simp at hy; subst hy; rfl) (by unfold maxLen; omega) (by omega) (by simp; omega) ?_)
                  intro v' w9 hown' hgrow _
                  have HO9 := hide (OwnS.push HOW7.out.2 HSH.out hown' rfl)
                  have HB9 := hide ((HB7.out.alloc HB7.out.size (.cells #[.string n] 9)).grown hgrow (by have := HB7.out.size; simp; omega) (fun g hg => own_block_ge HOW7.out.1 g hg))
                  clear hown' hgrow
                  go_wp2_with fail
                  go_roundg (p.cons.length - (i + 1))
                  case measure => rw [hz.out]; omega
                  case rel => exact ⟨i + 1, hide rfl, by go_num, hide ⟨hlts, HB9.out, by rw [HTK.out]; exact HO9.out, HDX.out⟩⟩
            · have hltsi : ¬ (i : Int) < (p.cons.length : Int) := by omega
              have HEQ := hide (show Y ++ p.cons.take i = chainN (ch.take (g + 1)) by rw [List.take_of_length_le (by omega), HSN.out])
              have HR2 := hide (show OwnS w1.heap.size _ (chainN (ch.take (g + 1))) wr ∧ dupO (badC d) (chainN (ch.take (g + 1))) [] = none by rw [← HEQ.out]; exact hr.out.2.2)
              clear hr HEQ
              go_wp2_with fail
              go_roundg (ch.length - (g + 1))
              case measure => rw [hv.out]; omega
              case rel => exact ⟨g + 1, hide rfl, by go_num, hide ⟨hltg, HBQ.out, HR2.out⟩⟩
        · have hltgi : ¬ (g : Int) < (ch.length : Int) := by omega
          have HN := hide (HNX.out (by
            have h := hq.out.2.2.2
            rw [List.take_of_length_le (by omega)] at h
            exact h))
          clear hq
          go_wp2_with fail
          go_roundg (d.chains.length - (k + 1))
          case measure => rw [hu.out]; omega
          case rel => exact ⟨k + 1, hide rfl, by go_num, hide ⟨hlt, HBQ.out, HN.out⟩⟩
    · have hlti : ¬ (k : Int) < (d.chains.length : Int) := by omega
      have HF := hide (show res = toldV okL by
        rw [← HRES.out]
        unfold prioL
        rw [prioG_miss _ d.chains (fun j h => hh.out.2.2 j h (by omega))])
      go_wp2_with fail
      go_ret2
      exact ⟨by rw [HF.out]; rfl, below_next HB0.out HBR.out⟩
end Go.Proofs.Ytalicfpcmcbdbaa
