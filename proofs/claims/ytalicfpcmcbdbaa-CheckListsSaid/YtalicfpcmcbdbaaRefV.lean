/- The reference: Uses. -/
import Derived.Test.YtalicfpcmcbdbaaRefU
set_option linter.unusedVariables false
set_option linter.unusedSimpArgs false
set_option linter.unnecessarySimpa false
set_option linter.deprecated false
namespace Go.Proofs.Ytalicfpcmcbdbaa
open Go.RowKit

open Classical in
set_option maxHeartbeats 800000 in
set_option maxRecDepth 100000 in
theorem rUses_any (d : Df) (a2 : Option Addr) (c2 : Nat) (a3 : Option Addr) (c3 : Nat) (a4 : Option Addr) (c4 : Nat) (a5 : Option Addr) (c5 : Nat) (a6 : Option Addr) (c6 : Nat) (s : ByteArray) (w : World) (hd : RD d ⟨a2, c2, a3, c3, a4, c4, a5, c5, a6, c6⟩ w) (hs : short s) (hln : d.prods.length ≤ 100000) (hall : (d.prods.flatMap namesL).length ≤ 99999) : Calls Try.prog 29 #[.agg #[.string d.start, .string d.layout, .slice a2 d.prods.length c2, .slice a3 d.chains.length c3, .slice a4 d.follows.length c4, .slice a5 d.rejects.length c5, .slice a6 d.boxes.length c6], .string s] w fun e w' => ∃ v, e = .returned v ∧ OwnS w.heap.size v (usesL d s) w' ∧ Below w.heap.size w w' := by
  obtain ⟨i0, hi, hz0, hz1, hz2⟩ := info_parts info9
  have HLN := hide hln
  have HALL := hide hall
  have HSS := hide hs
  clear hln hall hs
  have HB0 := hide ((Below.refl w.heap.size w).alloc (Nat.le_refl _) (.cells #[.string d.start, .string d.layout, .slice a2 d.prods.length c2, .slice a3 d.chains.length c3, .slice a4 d.follows.length c4, .slice a5 d.rejects.length c5, .slice a6 d.boxes.length c6] 28))
  have HX0 := hide (Blk.new w #[.string d.start, .string d.layout, .slice a2 d.prods.length c2, .slice a3 d.chains.length c3, .slice a4 d.follows.length c4, .slice a5 d.rejects.length c5, .slice a6 d.boxes.length c6] 28)
  have HD := hide (hd.below HB0.out)
  have hl2 := hd.p.1
  clear hd
  go_enter Try.func29, Try.ntmps29
  go_upto_region 2 with fail
  obtain ⟨kx, hkx⟩ : ∃ kx, w.heap.size = kx := ⟨_, rfl⟩
  obtain ⟨w1, h1⟩ : ∃ w1, w.alloc (.cells #[.string d.start, .string d.layout, .slice a2 d.prods.length c2, .slice a3 d.chains.length c3, .slice a4 d.follows.length c4, .slice a5 d.rejects.length c5, .slice a6 d.boxes.length c6] 28) = w1 := ⟨_, rfl⟩
  rw [h1] at HD HB0 HX0 ⊢
  rw [hkx] at HX0 ⊢
  clear h1 hkx
  have HFR := hide (farN_any d a2 c2 a3 c3 a4 c4 a5 c5 a6 c6 s w1 HD.out HSS.out HALL.out)
  have x0 := HX0.out.cell 0
  have x1 := HX0.out.cell 1
  have x2 := HX0.out.cell 2
  have x3 := HX0.out.cell 3
  have x4 := HX0.out.cell 4
  have x5 := HX0.out.cell 5
  have x6 := HX0.out.cell 6
  have xl := HX0.out.lt
  go_wp2_with fail
  refine HFR.out.mono ?_
  rintro e w2 ⟨v, met, rfl, ho, hmet, hml, hb2⟩
  have HMET := hide hmet
  obtain ⟨a6', c6', rfl, hr6⟩ := ho.row (by omega)
  have HR6 := hide hr6
  have HX2 := hide (HX0.out.below hb2)
  have HD2 := hide (HD.out.below hb2)
  have HB2 := hide (below_next HB0.out hb2)
  clear x0 x1 x2 x3 x4 x5 x6 xl
  clear ho hb2 hr6 HX0 HD HB0 HFR hmet
  have HSO := hide (rSorts_any d a2 c2 a3 c3 a4 c4 a5 c5 a6 c6 w2 HD2.out HLN.out)
  have x0 := HX2.out.cell 0
  have x1 := HX2.out.cell 1
  have x2 := HX2.out.cell 2
  have x3 := HX2.out.cell 3
  have x4 := HX2.out.cell 4
  have x5 := HX2.out.cell 5
  have x6 := HX2.out.cell 6
  have xl := HX2.out.lt
  go_wp2_with fail
  refine HSO.out.mono ?_
  rintro e w3 ⟨v, rfl, ho, hb3⟩
  have hsl := sortsL_len d.prods
  have hsl2 := HLN.out
  obtain ⟨a7, c7, rfl, hr7⟩ := ho.row (by omega)
  have HR7 := hide hr7
  have HR63 := hide (HR6.out.below StrAt.stable hb3)
  have HB3 := hide (below_next HB2.out hb3)
  clear x0 x1 x2 x3 x4 x5 x6 xl
  clear ho hb3 hr7 HX2 HD2 HB2 HSO HR6
  have HLX := hide (show usesL d s = (sortsL d.prods).filter (fun t => decide (Reach d.prods namesL s t)) from rfl)
  have hlen := Nat.le_trans hsl hsl2
  clear hsl hsl2
  generalize sortsL d.prods = L at HR7 HLX hlen ⊢
  go_wp2_with fail
  go_loopg [5, 8] L.length (fun u v5 v8 wr => ∃ k : Nat, Hid (u = L.length - k) ∧ v8 = .int .i64 (k : Int) ∧ Hid (k ≤ L.length ∧ Below w3.heap.size w3 wr ∧ OwnS w3.heap.size v5 ((L.take k).filter (fun t => decide (Reach d.prods namesL s t))) wr))
  case atStart => exact ⟨0, hide rfl, rfl, hide ⟨Nat.zero_le _, Below.refl _ _, OwnS.nil _ _⟩⟩
  case round =>
    obtain ⟨k, hu, rfl, hh⟩ := hrel
    have hkl := hh.out.1
    by_cases hlt : k < L.length
    · have hlti : (k : Int) < (L.length : Int) := by omega
      obtain ⟨b, o, rfl, hb, hat⟩ := (HR7.out.below StrAt.stable hh.out.2.1).get hlt
      have hx := hat k hlt
      rw [Nat.mul_one] at hx
      have HTK := hide (take_snoc L k hlt)
      generalize L[k] = t at hx HTK
      clear hat
      obtain ⟨hsh, f0⟩ := hx
      have HSH := hide hsh
      have HC := hide (rIn_any met t a6' c6' wr (HR63.out.below StrAt.stable hh.out.2.1))
      have HOW := hide hh.out.2.2
      have hml2 : ((L.take k).filter (fun t => decide (Reach d.prods namesL s t))).length ≤ 100000 := by
        have h1 := List.length_filter_le (fun t => decide (Reach d.prods namesL s t)) (L.take k)
        rw [List.length_take] at h1; omega
      have hbs := hh.out.2.1.size
      clear hsh
      cases hq : inB t met with
      | false =>
        rw [hq] at HC
        have hnr : ¬ Reach d.prods namesL s t := fun h => by rw [(inB_iff _ _).2 ((HMET.out t).2 h)] at hq; cases hq
        have HA := hide (show (L.take (k + 1)).filter (fun t => decide (Reach d.prods namesL s t)) = (L.take k).filter (fun t => decide (Reach d.prods namesL s t)) by rw [HTK.out, List.filter_append]; simp [hnr])
        clear hq hnr
        go_wp2_with (go_at_call 64; refine HC.out.mono ?_; rintro e w5 ⟨rfl, rfl⟩)
        go_roundg (L.length - (k + 1))
        case measure => rw [hu.out]; omega
        case rel => exact ⟨k + 1, hide rfl, by go_num, hide ⟨hlt, hh.out.2.1, by rw [HA.out]; exact HOW.out⟩⟩
      | true =>
        rw [hq] at HC
        have hnr : Reach d.prods namesL s t := (HMET.out t).1 ((inB_iff _ _).1 hq)
        have HA := hide (show (L.take (k + 1)).filter (fun t => decide (Reach d.prods namesL s t)) = (L.take k).filter (fun t => decide (Reach d.prods namesL s t)) ++ [t] by rw [HTK.out, List.filter_append]; simp [hnr])
        clear hq hnr
        generalize (L.take k).filter (fun t => decide (Reach d.prods namesL s t)) = l0 at HOW HA hml2 ⊢
        go_wp2_with fail
        refine HC.out.mono ?_
        rintro e w5 ⟨rfl, rfl⟩
        go_wp2_with (at_builtin; refine wpList_append_own _ rfl _ _ 56 rfl w3.heap.size 9 i0 (.string ⟨#[]⟩) 1 16 Try.underlying56 hi hz0 hz1 hz2 rfl (by decide) _ _ (strsC l0) rfl (HOW.out.1.alloc _) ⟨wr.heap.size, 0, none⟩ 1 1 [.string t] rfl rfl (cells_at _ _ _ _ rfl) (by intro y hy; simp at hy; subst hy; rfl) (by unfold maxLen; omega) (by omega) (by simp; omega) ?_)
        intro v' w7 hown' hgrow _
        have HG := hide hgrow
        have HO := hide hown'
        clear hgrow hown'
        go_wp2_with fail
        go_roundg (L.length - (k + 1))
        case measure => rw [hu.out]; omega
        case rel =>
          have hb2 := hh.out.2.1.alloc hh.out.2.1.size (.cells #[.string t] 9)
          exact ⟨k + 1, hide rfl, by go_num, hide ⟨hlt, hb2.grown HG.out hb2.size (fun g hg => own_block_ge HOW.out.1 g hg), by rw [HA.out]; exact OwnS.push HOW.out.2 HSH.out HO.out rfl⟩⟩
    · have hlti : ¬ (k : Int) < (L.length : Int) := by omega
      have HO := hide hh.out.2.2
      rw [List.take_of_length_le (by omega), ← HLX.out] at HO
      go_wp2_with fail
      go_ret
      exact ⟨_, rfl, HO.out.base HB3.out.size, below_next HB3.out hh.out.2.1⟩
end Go.Proofs.Ytalicfpcmcbdbaa
