/- The walk of box. -/
import Derived.Test.YtalicfpcmcbdbaaZFits
import Derived.Test.YtalicfpcmcbdbaaZLook5
import Derived.Test.YtalicfpcmcbdbaaZRcWalk
set_option linter.unusedVariables false
set_option linter.unusedSimpArgs false
set_option linter.unnecessarySimpa false
set_option linter.deprecated false
namespace Go.Proofs.Ytalicfpcmcbdbaa
open Go.RowKit

def okR : Option (List Sy × Int) → Bool
  | some ([], _) => true
  | _ => false
def fitOk (p : Pd) (l : List It) : Bool := okR (fIs l p.syms 0)
def metB (d : Df) (k : Nat) : List ByteArray := (d.boxes.take k).map Bx.cons
/-- Is a template bad: of no constructor, a second one, or one that does not fit. -/
def boxHit (d : Df) (k : Nat) (x : Bx) : Bool := decide (consIdx d.prods x.cons < 0) || inB x.cons (metB d k) || !(match d.prods[(consIdx d.prods x.cons).toNat]? with | some p => fitOk p x.items | none => false)
def boxL (d : Df) : Int × ByteArray := firstI 52 (boxHit d) Bx.cons d.boxes 0
theorem metB_snoc (d : Df) (k : Nat) (h : k < d.boxes.length) : metB d (k + 1) = metB d k ++ [d.boxes[k].cons] := by
  unfold metB; rw [take_snoc _ _ h, List.map_append]; simp
theorem upd_self (f : ByteArray → Int) (s : ByteArray) (y : Int) : upd f s y s = y := by unfold upd; rw [if_pos rfl]
set_option maxHeartbeats 1600000 in
set_option maxRecDepth 100000 in
theorem box_any (d : Df) (a2 : Option Addr) (c2 : Nat) (a3 : Option Addr) (c3 : Nat) (a4 : Option Addr) (c4 : Nat) (a5 : Option Addr) (c5 : Nat) (a6 : Option Addr) (c6 : Nat) (as_ : Option Addr) (cs m n : Nat) (bb : Nat) (w : World) (hbk : Book d a2 c2 a3 c3 a4 c4 a5 c5 a6 c6 as_ cs m n bb w) (hsl : ∀ p ∈ d.prods, p.syms.length ≤ 100000) (hbl : d.boxes.length ≤ 100000) : Calls Try.prog 49 #[.pointer (some ⟨bb, 0, none⟩)] w fun e w' => e = .returned (.tuple #[.int .i64 ((boxL d).1), .string ((boxL d).2)]) ∧ Below w.heap.size w w' := by
  have hmm := @run_makeMap Try.prog
  have bk0 := hbk.bk.cell 0
  have bk1 := hbk.bk.cell 1
  have bk2 := hbk.bk.cell 2
  have bk3 := hbk.bk.cell 3
  have bk4 := hbk.bk.cell 4
  have bk5 := hbk.bk.cell 5
  have bk6 := hbk.bk.cell 6
  have bk7 := hbk.bk.cell 7
  have bk8 := hbk.bk.cell 8
  have bkl := hbk.bk.lt
  have HBK := hide hbk
  clear hbk
  have HSL := hide hsl
  have HBL := hide hbl
  have hln := HBK.out.rd.x.1
  obtain ⟨res, hres⟩ : ∃ r, boxL d = r := ⟨_, rfl⟩
  have HRES := hide hres
  rw [hres]
  have HM0 := hide (MapF.made w)
  have HB1 := hide ((Below.refl w.heap.size w).alloc (Nat.le_refl _) (.map #[] 0))
  clear hres hsl hbl
  go_enter Try.func49, Try.ntmps49
  go_wp2_with fail
  clear bk0 bk1 bk2 bk3 bk4 bk5 bk6 bk7 bk8 bkl
  obtain ⟨mb, hmb⟩ : ∃ mb, w.heap.size = mb := ⟨_, rfl⟩
  obtain ⟨w1, hw1⟩ : ∃ w1, w.alloc (.map #[] 0) = w1 := ⟨_, rfl⟩
  rw [hmb, hw1] at HM0
  rw [hw1] at HB1
  rw [hw1, hmb]
  have HMB := hide (show w.heap.size ≤ mb by omega)
  clear hmb hw1
  go_loopg [17] d.boxes.length (fun u v17 wr => ∃ k : Nat, Hid (u = d.boxes.length - k) ∧ v17 = .int .i64 (k : Int) ∧ Hid (k ≤ d.boxes.length ∧ Below w.heap.size w wr ∧ MapF wr mb k (metF (metB d k)) ∧ ∀ j (h : j < d.boxes.length), j < k → boxHit d (0 + j) d.boxes[j] = false))
  case atStart => exact ⟨0, hide rfl, rfl, hide ⟨Nat.zero_le _, HB1.out, by rw [show metB d 0 = [] from rfl, metF_nil]; exact HM0.out, fun j _ h => by omega⟩⟩
  case round =>
    obtain ⟨k, hu, rfl, hh⟩ := hrel
    have hkl := hh.out.1
    by_cases hlt : k < d.boxes.length
    · have hlti : (k : Int) < (d.boxes.length : Int) := by omega
      obtain ⟨b, o, rfl, hb, hat⟩ := HBK.out.rd.x.get hlt
      have hx := hat k hlt
      have HNX := hide (fun (h : boxHit d k d.boxes[k] = false) => none_nextI (f := boxHit d) (l := d.boxes) (k := k) hh.out.2.2.2 (fun _ => rfl) h)
      have HHI := hide (fun (h : boxHit d k d.boxes[k] = true) => firstI_hit 52 (boxHit d) Bx.cons d.boxes 0 k hlt hh.out.2.2.2 (by rw [Nat.zero_add]; exact h))
      have HMS := hide (metB_snoc d k hlt)
      generalize d.boxes[k] = x at hx HNX HHI HMS
      clear hat
      obtain ⟨cons, items⟩ := x
      obtain ⟨hsh, ai, ci0, ⟨e0, e1⟩, hrow⟩ := hx.cells
      replace e0 := (hh.out.2.1.cell (p := ⟨b, o + k * 2, none⟩) hb).trans e0
      replace e1 := (hh.out.2.1.cell (p := ⟨b, o + k * 2 + 1, none⟩) hb).trans e1
      have hb2 : b < wr.heap.size := Nat.lt_of_lt_of_le hb hh.out.2.1.size
      have HSH := hide (show short cons from hsh)
      have HROW := hide (show Row ItAt 4 items ai w from hrow)
      have hki : k ≤ 100000 := by have := HBL.out; omega
      have HM := hide hh.out.2.2.1
      have HBW := hide hh.out.2.1
      clear hx hrow hsh hh
      go_upto_region 5 with fail
      obtain ⟨w6, h6⟩ : ∃ w6, wr.alloc (.cells #[.string cons, .slice ai items.length ci0] 53) = w6 := ⟨_, rfl⟩
      obtain ⟨kx, hkx⟩ : ∃ kx, wr.heap.size = kx := ⟨_, rfl⟩
      have HB6 := hide (show Below w.heap.size w w6 by rw [← h6]; exact HBW.out.alloc HBW.out.size _)
      have HX6 := hide (show Blk w6 kx #[.string cons, .slice ai items.length ci0] 53 by rw [← h6, ← hkx]; exact Blk.new wr _ _)
      have HM6 := hide (show MapF w6 mb k (metF (metB d k)) by rw [← h6]; exact HM.out.below ((Below.refl _ _).alloc (Nat.le_refl _) _))
      have HBK6 := hide (HBK.out.below HB6.out)
      have HC := hide (Cons_at d a2 c2 a3 c3 a4 c4 a5 c5 (some ⟨b, o, none⟩) c6 cons w6.drew (HBK6.out.rd.p.below PdAt.stable (Below.refl _ _).drew))
      rw [h6, hkx]
      clear h6 hkx e0 e1 hb hb2
      have x0 := HX6.out.cell 0
      have x1 := HX6.out.cell 1
      have xl := HX6.out.lt
      have bk0 := HBK6.out.bk.cell 0
      have bk1 := HBK6.out.bk.cell 1
      have bk2 := HBK6.out.bk.cell 2
      have bk3 := HBK6.out.bk.cell 3
      have bk4 := HBK6.out.bk.cell 4
      have bk5 := HBK6.out.bk.cell 5
      have bk6 := HBK6.out.bk.cell 6
      have bkl := HBK6.out.bk.lt
      obtain ⟨ci, hci⟩ : ∃ ci, consIdx d.prods cons = ci := ⟨_, rfl⟩
      rw [hci] at HC
      have HCI := hide hci
      clear hci
      go_still_tail 6, (by kernel_rfl)
      change wpList _ _ _ _ _ w6.drew
      go_wp2_with fail
      refine HC.out.mono ?_
      rintro e w7 ⟨rfl, hb7⟩
      have hb67 : Below w6.heap.size w6 w7 := below_next (Below.refl w6.heap.size w6).drew hb7
      have HB7 := hide (below_next HB6.out hb67)
      have HX7 := hide (HX6.out.below hb67)
      have HM7 := hide (HM6.out.below hb67)
      clear x0 x1 xl bk0 bk1 bk2 bk3 bk4 bk5 bk6 bkl hb7 hb67
      have x0 := HX7.out.cell 0
      have xl := HX7.out.lt
      have hlk := HM7.out.look cons HSH.out
      obtain ⟨v0, hv⟩ : ∃ v0, metF (metB d k) cons = v0 := ⟨_, rfl⟩
      have hv01 : (v0 = 0 ∧ inB cons (metB d k) = false) ∨ (v0 = 1 ∧ inB cons (metB d k) = true) := by
        rw [← hv]
        unfold metF
        cases inB cons (metB d k)
        · exact Or.inl ⟨rfl, rfl⟩
        · exact Or.inr ⟨rfl, rfl⟩
      rw [hv] at hlk
      have HV := hide hv01
      have hk6 : k < 1000000 := by omega
      clear hv hv01
      have hvc : v0 = 0 ∨ v0 = 1 := HV.out.elim (fun h => Or.inl h.1) (fun h => Or.inr h.1)
      have fin : ∀ (y : Int), y = v0 + 1 → ∀ w8, MapF w8 mb (k + 1) (upd (metF (metB d k)) cons y) → w7.grownBy w8 (some mb) → Hid (Below w.heap.size w w8 ∧ Blk w8 kx #[.string cons, .slice ai items.length ci0] 53 ∧ MapF w8 mb (k + 1) (upd (metF (metB d k)) cons y)) := fun y hy w8 hm8 hg8 =>
        hide ⟨HB7.out.grown hg8 HB7.out.size (fun g e => by injection e with e; rw [← e]; exact HMB.out), HX7.out.grown hg8 (fun e => HM7.out.ne_blk HX7.out (Option.some.inj e).symm), hm8⟩
      have HFIN := hide fin
      clear fin
      have HV0 := hide hvc
      rcases HV0.out with rfl | rfl
      · have HIN := hide (show inB cons (metB d k) = false from HV.out.elim (fun h => h.2) (fun h => absurd h.1 (by decide)))
        clear hvc
        by_cases h0 : ci < 0
        · have HF := hide (show res = (52, cons) by rw [← HRES.out]; exact HHI.out (by unfold boxHit; simp only [HCI.out]; simp [h0]))
          go_upto_region 6 with fail
          go_wp2_with (at_mapUpdate; refine wpList_update rfl _ _ _ rfl mb k (metF (metB d k)) rfl HM7.out hk6 cons HSH.out 1 (by decide) (by unfold i64; omega) rfl rfl ?_; intro w8 hm8 hg8; have H8 := hide (HFIN.out 1 rfl w8 hm8 hg8).out; clear hm8 hg8; have hl8 := H8.out.2.2.look cons HSH.out; rw [upd_self] at hl8; have y0 := H8.out.2.1.cell 0; have y1 := H8.out.2.1.cell 1; have yl := H8.out.2.1.lt; clear x0 xl hlk)
          go_upto_region 8 with fail
          go_quiet (fail)
          go_wp2_with fail
          go_ret2
          exact ⟨by rw [HF.out]; rfl, H8.out.1.trans ⟨rfl, rfl, rfl, Nat.le_refl _, fun _ _ => rfl⟩⟩
        · obtain ⟨i, rfl⟩ : ∃ i : Nat, ci = (i : Int) := ⟨ci.toNat, by omega⟩
          have hil : i < d.prods.length := by
            have := consIdx_lt d.prods cons
            rw [HCI.out] at this
            omega
          obtain ⟨b5, o5, rfl, hb5, hat5⟩ := HBK.out.rd.p.get hil
          have hx5 := hat5 i hil
          have HGI := hide (List.getElem?_eq_getElem hil)
          have HSX := hide (HSL.out _ (List.getElem_mem hil))
          generalize d.prods[i] = pd at hx5 HGI HSX
          obtain ⟨ap, cp, q4, hrs, hcp⟩ := hx5.cap
          have HRS := hide hrs
          have hili : (i : Int) < (d.prods.length : Int) := by omega
          have HFT := hide (show boxHit d k ⟨cons, items⟩ = !fitOk pd items by
            unfold boxHit
            simp only [HCI.out, HIN.out, Int.toNat_natCast, HGI.out]
            rw [decide_eq_false h0]; rfl)
          clear hat5 hx5 hrs
          go_upto_region 6 with fail
          go_wp2_with (at_mapUpdate; refine wpList_update rfl _ _ _ rfl mb k (metF (metB d k)) rfl HM7.out hk6 cons HSH.out 1 (by decide) (by unfold i64; omega) rfl rfl ?_; intro w8 hm8 hg8; have H8 := hide (HFIN.out 1 rfl w8 hm8 hg8).out; clear hm8 hg8; have hl8 := H8.out.2.2.look cons HSH.out; rw [upd_self] at hl8; have y0 := H8.out.2.1.cell 0; have y1 := H8.out.2.1.cell 1; have yl := H8.out.2.1.lt; clear x0 xl hlk; have bk2 := (HBK.out.below H8.out.1).bk.cell 2; have bkl := (HBK.out.below H8.out.1).bk.lt; have q5 := (H8.out.1.cell (p := ⟨b5, o5 + i * 5 + 4, none⟩) hb5).trans q4; have hb58 := Nat.lt_of_lt_of_le hb5 H8.out.1.size; clear q4 hb5)
          have HFC := hide (show FiC w8 w8.heap.size (w8.heap.size + 1) pd.syms 0 ap cp ((w8.alloc (.cells #[.slice ap pd.syms.length cp] 36)).alloc (.cells #[.int .i64 0] 3)) from ⟨NB.alloc (NB.alloc (Below.refl _ _) _) _, (Blk.new w8 _ _).alloc _, NB.new1, HRS.out.below SyAt.stable H8.out.1, hcp⟩)
          have HC2 := hide (fits_all (SizeOf.sizeOf items + 1) items (Nat.lt_succ_self _) pd.syms 0 ap cp ai ci0 w8.heap.size (w8.heap.size + 1) w8 _ (HROW.out.below ItAt.stable H8.out.1) (Nat.le_refl _) (by omega) (by omega) HFC.out (by omega) (by have := HSX.out; omega))
          go_wp2_with fail
          refine HC2.out.mono ?_
          rintro e w9 ⟨⟨rfl, hb9⟩, hc9⟩
          have HB9 := hide (below_next H8.out.1 hb9)
          have HX9 := hide (H8.out.2.1.below hb9)
          have HM9 := hide (H8.out.2.2.below hb9)
          have HC9 := hide hc9
          have hlt8 := H8.out.2.1.lt
          clear y0 y1 yl bk2 bkl q5 hb58 hb9 hc9 hl8
          have x0 := HX9.out.cell 0
          have xl := HX9.out.lt
          obtain ⟨fr, hfr⟩ : ∃ fr, fIs items pd.syms 0 = fr := ⟨_, rfl⟩
          rw [hfr] at HC9 ⊢
          have HOK := hide (show fitOk pd items = okR fr by unfold fitOk; rw [hfr])
          clear hfr
          match fr, HC9, HOK with
          | none, HC9, HOK =>
            have HF := hide (show res = (52, cons) by rw [← HRES.out]; exact HHI.out (by rw [HFT.out, HOK.out]; rfl))
            go_upto_region 12 with fail
            go_quiet (fail)
            go_wp2_with fail
            go_ret2
            exact ⟨by rw [HF.out]; rfl, HB9.out.trans ⟨rfl, rfl, rfl, Nat.le_refl _, fun _ _ => rfl⟩⟩
          | some ([], m9), HC9, HOK =>
            obtain ⟨a9, c9, hf9⟩ := HC9.out [] m9 rfl
            have s0 := hf9.s.cell 0
            have sl := hf9.s.lt
            have HN := hide (HNX.out (by rw [HFT.out, HOK.out]; rfl))
            clear hf9
            go_wp2_with fail
            go_roundg (d.boxes.length - (k + 1))
            case measure => rw [hu.out]; omega
            case rel => exact ⟨k + 1, hide rfl, by go_num, hide ⟨hlt, HB9.out, by rw [HMS.out, metF_add]; exact HM9.out, HN.out⟩⟩
          | some (s :: r, m9), HC9, HOK =>
            obtain ⟨a9, c9, hf9⟩ := HC9.out (s :: r) m9 rfl
            have s0 := hf9.s.cell 0
            have sl := hf9.s.lt
            have hpos : ((s :: r).length : Int) > 0 := by simp only [List.length_cons]; omega
            have HF := hide (show res = (52, cons) by rw [← HRES.out]; exact HHI.out (by rw [HFT.out, HOK.out]; rfl))
            clear hf9
            generalize (s :: r).length = ln at s0 hpos
            go_upto_region 12 with fail
            go_quiet (fail)
            go_wp2_with fail
            go_ret2
            exact ⟨by rw [HF.out]; rfl, HB9.out.trans ⟨rfl, rfl, rfl, Nat.le_refl _, fun _ _ => rfl⟩⟩
      · have hin : inB cons (metB d k) = true := HV.out.elim (fun h => absurd h.1 (by decide)) (fun h => h.2)
        have HF := hide (show res = (52, cons) by rw [← HRES.out]; exact HHI.out (by unfold boxHit; simp [hin]))
        clear hin hvc
        by_cases h0 : ci < 0
        · go_upto_region 6 with fail
          go_wp2_with (at_mapUpdate; refine wpList_update rfl _ _ _ rfl mb k (metF (metB d k)) rfl HM7.out hk6 cons HSH.out 2 (by decide) (by unfold i64; omega) rfl rfl ?_; intro w8 hm8 hg8; have H8 := hide (HFIN.out 2 rfl w8 hm8 hg8).out; clear hm8 hg8; have hl8 := H8.out.2.2.look cons HSH.out; rw [upd_self] at hl8; have y0 := H8.out.2.1.cell 0; have y1 := H8.out.2.1.cell 1; have yl := H8.out.2.1.lt; clear x0 xl hlk)
          go_upto_region 8 with fail
          go_quiet (fail)
          go_wp2_with fail
          go_ret2
          exact ⟨by rw [HF.out]; rfl, H8.out.1.trans ⟨rfl, rfl, rfl, Nat.le_refl _, fun _ _ => rfl⟩⟩
        · go_upto_region 6 with fail
          go_wp2_with (at_mapUpdate; refine wpList_update rfl _ _ _ rfl mb k (metF (metB d k)) rfl HM7.out hk6 cons HSH.out 2 (by decide) (by unfold i64; omega) rfl rfl ?_; intro w8 hm8 hg8; have H8 := hide (HFIN.out 2 rfl w8 hm8 hg8).out; clear hm8 hg8; have hl8 := H8.out.2.2.look cons HSH.out; rw [upd_self] at hl8; have y0 := H8.out.2.1.cell 0; have y1 := H8.out.2.1.cell 1; have yl := H8.out.2.1.lt; clear x0 xl hlk)
          go_upto_region 8 with fail
          go_quiet (fail)
          go_wp2_with fail
          go_ret2
          exact ⟨by rw [HF.out]; rfl, H8.out.1.trans ⟨rfl, rfl, rfl, Nat.le_refl _, fun _ _ => rfl⟩⟩
    · have hlti : ¬ (k : Int) < (d.boxes.length : Int) := by omega
      have HF := hide (show res = okL by rw [← HRES.out]; exact firstI_miss 52 (boxHit d) Bx.cons d.boxes 0 (fun j h => hh.out.2.2.2 j h (by omega)))
      go_wp2_with fail
      go_ret2
      exact ⟨by rw [HF.out]; rfl, hh.out.2.1⟩
end Go.Proofs.Ytalicfpcmcbdbaa
