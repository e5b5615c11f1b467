/- The reference: IsLex, Sorts. -/
import Derived.Test.YtalicfpcmcbdbaaZInL
import Derived.BigQuiet
set_option linter.unusedVariables false
set_option linter.unusedSimpArgs false
set_option linter.unnecessarySimpa false
set_option linter.deprecated false
namespace Go.Proofs.Ytalicfpcmcbdbaa
open Go.RowKit

set_option maxHeartbeats 800000 in
set_option maxRecDepth 100000 in
theorem rIsLex_any (d : Df) (a2 : Option Addr) (c2 : Nat) (a3 : Option Addr) (c3 : Nat) (a4 : Option Addr) (c4 : Nat) (a5 : Option Addr) (c5 : Nat) (a6 : Option Addr) (c6 : Nat) (s : ByteArray) (q : Bool) (w : World) (hd : RD d ⟨a2, c2, a3, c3, a4, c4, a5, c5, a6, c6⟩ w) : Calls Try.prog 65 #[.agg #[.string d.start, .string d.layout, .slice a2 d.prods.length c2, .slice a3 d.chains.length c3, .slice a4 d.follows.length c4, .slice a5 d.rejects.length c5, .slice a6 d.boxes.length c6], .string s, .bool q] w fun e w' => e = .returned (.bool (isLex d.prods s q)) ∧ Below w.heap.size w w' := by
  have HB0 := hide ((Below.refl w.heap.size w).alloc (Nat.le_refl _) (.cells #[.string d.start, .string d.layout, .slice a2 d.prods.length c2, .slice a3 d.chains.length c3, .slice a4 d.follows.length c4, .slice a5 d.rejects.length c5, .slice a6 d.boxes.length c6] 28))
  have HX0 := hide (Blk.new w #[.string d.start, .string d.layout, .slice a2 d.prods.length c2, .slice a3 d.chains.length c3, .slice a4 d.follows.length c4, .slice a5 d.rejects.length c5, .slice a6 d.boxes.length c6] 28)
  have HD := hide (hd.below HB0.out)
  have hl2 := hd.p.1
  clear hd
  go_enter Try.func65, Try.ntmps65
  go_upto_region 1 with fail
  obtain ⟨kx, hkx⟩ : ∃ kx, w.heap.size = kx := ⟨_, rfl⟩
  obtain ⟨w1, h1⟩ : ∃ w1, w.alloc (.cells #[.string d.start, .string d.layout, .slice a2 d.prods.length c2, .slice a3 d.chains.length c3, .slice a4 d.follows.length c4, .slice a5 d.rejects.length c5, .slice a6 d.boxes.length c6] 28) = w1 := ⟨_, rfl⟩
  rw [h1] at HD HB0 HX0 ⊢
  rw [hkx] at HX0 ⊢
  clear h1 hkx
  go_wp2_with fail
  go_loopg [7] d.prods.length (fun u v7 wr => ∃ k : Nat, Hid (u = d.prods.length - k) ∧ v7 = .int .i64 (k : Int) ∧ Hid (k ≤ d.prods.length ∧ w1 = wr ∧ isLex (d.prods.take k) s q = false))
  case atStart => exact ⟨0, hide rfl, rfl, hide ⟨Nat.zero_le _, rfl, rfl⟩⟩
  case round =>
    obtain ⟨k, hu, rfl, hh⟩ := hrel
    have hkl := hh.out.1
    obtain rfl := hh.out.2.1
    have x2 := HX0.out.cell 2
    have xl := HX0.out.lt
    by_cases hlt : k < d.prods.length
    · have hlti : (k : Int) < (d.prods.length : Int) := by omega
      obtain ⟨b, o, rfl, hb, hat⟩ := HD.out.p.get hlt
      have hx := hat k hlt
      have HTK := hide (take_snoc d.prods k hlt)
      have HPM := hide (List.getElem_mem hlt)
      generalize d.prods[k] = p at hx HTK HPM
      clear hat
      obtain ⟨ap, cp, ⟨e0, e1, e2, e3, e4⟩, hrow⟩ := hx.cells
      have HS := hide (isLex_snoc (d.prods.take k) p s q)
      have HF := hide hh.out.2.2
      clear hx hrow hh
      obtain ⟨lx, hlx⟩ : ∃ lx, p.lex = lx := ⟨_, rfl⟩
      rw [hlx] at e0 HS
      have HLX := hide hlx
      clear hlx
      by_cases he : p.sort = s
      · have h2 : p.sort.toList = s.toList := by rw [he]
        have h1 : (p.sort.toList == s.toList) = true := by rw [he]; simp
        have HE := hide he
        clear he
        by_cases hq : lx = q
        · have HR := hide (show isLex d.prods s q = true by
            unfold isLex; rw [List.any_eq_true]; exact ⟨p, HPM.out, by rw [HE.out, HLX.out, hq]; simp⟩)
          subst hq
          cases lx
          all_goals
            go_wp2_with fail
            go_ret
            exact ⟨by rw [HR.out]; rfl, HB0.out⟩
        · have hqb : (lx == q) = false := beq_eq_false_iff_ne.2 hq
          rw [HF.out, HE.out, hqb] at HS
          clear hqb
          cases lx <;> cases q <;> first | exact absurd rfl hq | skip
          all_goals
            clear hq
            go_wp2_with fail
            go_roundg (d.prods.length - (k + 1))
            case measure => rw [hu.out]; omega
            case rel => exact ⟨k + 1, hide rfl, by go_num, hide ⟨hlt, rfl, by rw [HTK.out, HS.out]; simp⟩⟩
      · have h2 : ¬ p.sort.toList = s.toList := fun h => he ((toList_eq_iff _ _).1 h)
        have h1 : (p.sort.toList == s.toList) = false := beq_eq_false_iff_ne.2 h2
        rw [HF.out, decide_eq_false he] at HS
        clear he
        go_wp2_with fail
        go_roundg (d.prods.length - (k + 1))
        case measure => rw [hu.out]; omega
        case rel => exact ⟨k + 1, hide rfl, by go_num, hide ⟨hlt, rfl, by rw [HTK.out, HS.out]; rfl⟩⟩
    · have hlti : ¬ (k : Int) < (d.prods.length : Int) := by omega
      have HR := hide (show isLex d.prods s q = false by have := hh.out.2.2; rw [List.take_of_length_le (by omega)] at this; exact this)
      go_wp2_with fail
      go_ret
      exact ⟨by rw [HR.out]; rfl, HB0.out⟩
set_option maxHeartbeats 800000 in
set_option maxRecDepth 100000 in
theorem rSorts_any (d : Df) (a2 : Option Addr) (c2 : Nat) (a3 : Option Addr) (c3 : Nat) (a4 : Option Addr) (c4 : Nat) (a5 : Option Addr) (c5 : Nat) (a6 : Option Addr) (c6 : Nat) (w : World) (hd : RD d ⟨a2, c2, a3, c3, a4, c4, a5, c5, a6, c6⟩ w) (hln : d.prods.length ≤ 100000) : Calls Try.prog 27 #[.agg #[.string d.start, .string d.layout, .slice a2 d.prods.length c2, .slice a3 d.chains.length c3, .slice a4 d.follows.length c4, .slice a5 d.rejects.length c5, .slice a6 d.boxes.length c6]] w fun e w' => ∃ v, e = .returned v ∧ OwnS w.heap.size v (sortsL d.prods) w' ∧ Below w.heap.size w w' := by
  obtain ⟨i0, hi, hz0, hz1, hz2⟩ := info_parts info9
  have HLN := hide hln
  clear hln
  have HB0 := hide ((Below.refl w.heap.size w).alloc (Nat.le_refl _) (.cells #[.string d.start, .string d.layout, .slice a2 d.prods.length c2, .slice a3 d.chains.length c3, .slice a4 d.follows.length c4, .slice a5 d.rejects.length c5, .slice a6 d.boxes.length c6] 28))
  have HX0 := hide (Blk.new w #[.string d.start, .string d.layout, .slice a2 d.prods.length c2, .slice a3 d.chains.length c3, .slice a4 d.follows.length c4, .slice a5 d.rejects.length c5, .slice a6 d.boxes.length c6] 28)
  have HD := hide (hd.below HB0.out)
  have hl2 := hd.p.1
  clear hd
  go_enter Try.func27, Try.ntmps27
  go_upto_region 2 with fail
  obtain ⟨kx, hkx⟩ : ∃ kx, w.heap.size = kx := ⟨_, rfl⟩
  obtain ⟨w1, h1⟩ : ∃ w1, w.alloc (.cells #[.string d.start, .string d.layout, .slice a2 d.prods.length c2, .slice a3 d.chains.length c3, .slice a4 d.follows.length c4, .slice a5 d.rejects.length c5, .slice a6 d.boxes.length c6] 28) = w1 := ⟨_, rfl⟩
  rw [h1] at HD HB0 HX0 ⊢
  rw [hkx] at HX0 ⊢
  clear h1 hkx
  go_wp2_with fail
  go_loopg [3, 4] d.prods.length (fun u v3 v4 wr => ∃ k : Nat, Hid (u = d.prods.length - k) ∧ v4 = .int .i64 (k : Int) ∧ Hid (k ≤ d.prods.length ∧ Below w1.heap.size w1 wr ∧ OwnS w1.heap.size v3 (sortsL (d.prods.take k)) wr))
  case atStart => exact ⟨0, hide rfl, rfl, hide ⟨Nat.zero_le _, Below.refl _ _, OwnS.nil _ _⟩⟩
  case round =>
    obtain ⟨k, hu, rfl, hh⟩ := hrel
    have hkl := hh.out.1
    have x2 := (HX0.out.below hh.out.2.1).cell 2
    have xl := (HX0.out.below hh.out.2.1).lt
    by_cases hlt : k < d.prods.length
    · have hlti : (k : Int) < (d.prods.length : Int) := by omega
      obtain ⟨b, o, rfl, hb, hat⟩ := (HD.out.below hh.out.2.1).p.get hlt
      have hx := hat k hlt
      have HSN := hide (sortsL_snoc (d.prods.take k) d.prods[k])
      have HTK := hide (take_snoc d.prods k hlt)
      generalize d.prods[k] = p at hx HSN HTK
      clear hat
      have HSH := hide (show short p.sort from hx.1.s)
      obtain ⟨ap, cp, ⟨e0, e1, e2, e3, e4⟩, hrow⟩ := hx.cells
      have HOW := hide hh.out.2.2
      have hml : (sortsL (d.prods.take k)).length ≤ 100000 := by have := sortsL_len (d.prods.take k); have := HLN.out; rw [List.length_take] at *; omega
      obtain ⟨a7, c7, rfl, hr7⟩ := hh.out.2.2.row (by omega)
      have HIN := hide (rIn_any (sortsL (d.prods.take k)) p.sort a7 c7 wr hr7)
      have hbs := hh.out.2.1.size
      clear hx hrow hr7
      cases hi : inB p.sort (sortsL (d.prods.take k)) with
      | true =>
        rw [hi] at HIN
        have HA := hide (show sortsL (d.prods.take (k + 1)) = sortsL (d.prods.take k) by rw [HTK.out, HSN.out]; unfold addS; rw [if_pos hi])
        clear hi
        go_wp2_with (go_at_call 64; refine HIN.out.mono ?_; rintro e w5 ⟨rfl, rfl⟩)
        go_roundg (d.prods.length - (k + 1))
        case measure => rw [hu.out]; omega
        case rel => exact ⟨k + 1, hide rfl, by go_num, hide ⟨hlt, hh.out.2.1, by rw [HA.out]; exact HOW.out⟩⟩
      | false =>
        rw [hi] at HIN
        have HA := hide (show sortsL (d.prods.take (k + 1)) = sortsL (d.prods.take k) ++ [p.sort] by rw [HTK.out, HSN.out]; unfold addS; rw [if_neg (by rw [hi]; decide)])
        clear hi
        go_wp2_with fail
        refine HIN.out.mono ?_
        rintro e w5 ⟨rfl, rfl⟩
        generalize sortsL (d.prods.take k) = l0 at HOW HA hml ⊢
        go_wp2_with (at_builtin; refine wpList_append_own _ rfl _ _ 56 rfl w1.heap.size 9 i0 (.string ⟨#[]⟩) 1 16 Try.underlying56 hi hz0 hz1 hz2 rfl (by decide) _ _ (strsC l0) rfl (HOW.out.1.alloc _) ⟨wr.heap.size, 0, none⟩ 1 1 [.string p.sort] rfl rfl (cells_at _ _ _ _ rfl) (by intro y hy; simp at hy; subst hy; rfl) (by unfold maxLen; omega) (by omega) (by simp; omega) ?_)
        intro v' w7 hown' hgrow _
        have HG := hide hgrow
        have HO := hide hown'
        clear hgrow hown'
        go_wp2_with fail
        go_roundg (d.prods.length - (k + 1))
        case measure => rw [hu.out]; omega
        case rel =>
          have hb2 := hh.out.2.1.alloc hh.out.2.1.size (.cells #[.string p.sort] 9)
          exact ⟨k + 1, hide rfl, by go_num, hide ⟨hlt, hb2.grown HG.out hb2.size (fun g hg => own_block_ge HOW.out.1 g hg), by rw [HA.out]; exact OwnS.push HOW.out.2 HSH.out HO.out rfl⟩⟩
    · have hlti : ¬ (k : Int) < (d.prods.length : Int) := by omega
      have hke : d.prods.take k = d.prods := List.take_of_length_le (by omega)
      have HO := hide hh.out.2.2
      rw [hke] at HO
      clear hke
      go_wp2_with fail
      go_ret
      exact ⟨_, rfl, HO.out.base HB0.out.size, below_next HB0.out hh.out.2.1⟩
end Go.Proofs.Ytalicfpcmcbdbaa
