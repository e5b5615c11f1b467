/- The walks of Sorts and Uses. Does a name stand in a list: the walks. -/
import Derived.Test.YtalicfpcmcbdbaaZBook
import Derived.Test.YtalicfpcmcbdbaaZRcWalk
import Derived.Test.YtalicfpcmcbdbaaZNames
import Derived.Test.YtalicfpcmcbdbaaZReach
import Derived.Test.YtalicfpcmcbdbaaZCons
set_option linter.unusedVariables false
set_option linter.unusedSimpArgs false
set_option linter.unnecessarySimpa false
set_option linter.deprecated false
namespace Go.Proofs.Ytalicfpcmcbdbaa
open Go.RowKit

set_option maxHeartbeats 800000 in
set_option maxRecDepth 100000 in
theorem sorts_any (d : Df) (a2 : Option Addr) (c2 : Nat) (a3 : Option Addr) (c3 : Nat) (a4 : Option Addr) (c4 : Nat) (a5 : Option Addr) (c5 : Nat) (a6 : Option Addr) (c6 : Nat) (w : World) (hd : RD d ⟨a2, c2, a3, c3, a4, c4, a5, c5, a6, c6⟩ w) (hln : d.prods.length ≤ 100000) :
    Calls Try.prog 22 #[.agg #[.string d.start, .string d.layout, .slice a2 d.prods.length c2, .slice a3 d.chains.length c3, .slice a4 d.follows.length c4, .slice a5 d.rejects.length c5, .slice a6 d.boxes.length c6]] w fun e w' => ∃ v, e = .returned v ∧ OwnS w.heap.size v (sortsL d.prods) w' ∧ Below w.heap.size w w' := by
  have HB0 := hide ((Below.refl w.heap.size w).alloc (Nat.le_refl _) (.cells #[.string d.start, .string d.layout, .slice a2 d.prods.length c2, .slice a3 d.chains.length c3, .slice a4 d.follows.length c4, .slice a5 d.rejects.length c5, .slice a6 d.boxes.length c6] 28))
  have HC := hide (open_any d a2 c2 a3 c3 a4 c4 a5 c5 a6 c6 (w.alloc (.cells #[.string d.start, .string d.layout, .slice a2 d.prods.length c2, .slice a3 d.chains.length c3, .slice a4 d.follows.length c4, .slice a5 d.rejects.length c5, .slice a6 d.boxes.length c6] 28)) (hd.below HB0.out) hln)
  clear hd hln
  go_enter Try.func22, Try.ntmps22
  go_wp2_with fail
  refine HC.out.mono ?_
  rintro e w5 ⟨bb, as_, cs, m, n, rfl, hh⟩
  have HH := hide hh.out
  have b7 := HH.out.1.bk.cell 7
  have bl := HH.out.1.bk.lt
  clear hh
  go_wp2_with fail
  go_ret
  exact ⟨_, rfl, HH.out.2.1.base HB0.out.size, below_next HB0.out HH.out.2.2.2⟩
open Classical in
noncomputable def usesL (d : Df) (s : ByteArray) : List ByteArray := (sortsL d.prods).filter (fun t => decide (Reach d.prods namesL s t))
open Classical in
noncomputable def usesN (d : Df) (s : ByteArray) (k : Nat) : List ByteArray := ((sortsL d.prods).take k).filter (fun t => decide (Reach d.prods namesL s t))
open Classical in
theorem usesN_snoc (d : Df) (s : ByteArray) (k : Nat) (h : k < (sortsL d.prods).length) : usesN d s (k + 1) = if Reach d.prods namesL s (sortsL d.prods)[k] then usesN d s k ++ [(sortsL d.prods)[k]] else usesN d s k := by
  unfold usesN
  rw [take_snoc _ _ h, List.filter_append]
  by_cases hr : Reach d.prods namesL s (sortsL d.prods)[k] <;> simp [hr]
theorem usesN_le (d : Df) (s : ByteArray) (k : Nat) : (usesN d s k).length ≤ (sortsL d.prods).length := by
  unfold usesN
  refine Nat.le_trans (List.length_filter_le _ _) ?_
  rw [List.length_take]; omega
set_option maxHeartbeats 800000 in
set_option maxRecDepth 100000 in
theorem uses_any (d : Df) (a2 : Option Addr) (c2 : Nat) (a3 : Option Addr) (c3 : Nat) (a4 : Option Addr) (c4 : Nat) (a5 : Option Addr) (c5 : Nat) (a6 : Option Addr) (c6 : Nat) (s : ByteArray) (w : World) (hd : RD d ⟨a2, c2, a3, c3, a4, c4, a5, c5, a6, c6⟩ w) (hs : short s) (hln : d.prods.length ≤ 100000) (hall : (d.prods.flatMap namesL).length ≤ 99999) (hsl : ∀ p ∈ d.prods, p.syms.length ≤ 100000) :
    Calls Try.prog 23 #[.agg #[.string d.start, .string d.layout, .slice a2 d.prods.length c2, .slice a3 d.chains.length c3, .slice a4 d.follows.length c4, .slice a5 d.rejects.length c5, .slice a6 d.boxes.length c6], .string s] w fun e w' => ∃ v, e = .returned v ∧ OwnS w.heap.size v (usesL d s) w' ∧ Below w.heap.size w w' := by
  obtain ⟨i0, hi, hz0, hz1, hz2⟩ := info_parts info9
  have HB0 := hide ((Below.refl w.heap.size w).alloc (Nat.le_refl _) (.cells #[.string d.start, .string d.layout, .slice a2 d.prods.length c2, .slice a3 d.chains.length c3, .slice a4 d.follows.length c4, .slice a5 d.rejects.length c5, .slice a6 d.boxes.length c6] 28))
  have HC := hide (open_any d a2 c2 a3 c3 a4 c4 a5 c5 a6 c6 (w.alloc (.cells #[.string d.start, .string d.layout, .slice a2 d.prods.length c2, .slice a3 d.chains.length c3, .slice a4 d.follows.length c4, .slice a5 d.rejects.length c5, .slice a6 d.boxes.length c6] 28)) (hd.below HB0.out) hln)
  have HSL := hide (Nat.le_trans (sortsL_len d.prods) hln)
  go_enter Try.func23, Try.ntmps23
  go_wp2_with fail
  refine HC.out.mono ?_
  rintro e w5 ⟨bb, as_, cs, m, n, rfl, hh⟩
  have HBK := hide hh.out.1
  have HB5 := hide (below_next HB0.out hh.out.2.2.2)
  have HRC := hide (reach_at d a2 c2 a3 c3 a4 c4 a5 c5 a6 c6 as_ cs m n bb s 60 namesL (by intro args w; exact enters_of Try.func60 (by kernel_rfl) rfl args w) w5 HBK.out hs hall hln (fun W p ap cp hp hr => names_at p ap cp W hr (hsl p hp)))
  clear hh hd hs hall hln hsl
  go_wp2_with fail
  refine HRC.out.mono ?_
  rintro e w6 ⟨mb, nn, met, rfl, hq⟩
  have HQ := hide hq.out
  have HB6 := hide (below_next HB5.out HQ.out.2.2.2.2.2)
  have HBK6 := hide (HBK.out.below HQ.out.2.2.2.2.2)
  have b7 := HBK6.out.bk.cell 7
  have bl := HBK6.out.bk.lt
  have hln7 := HBK6.out.so.1
  clear hq
  go_wp2_with fail
  clear b7 bl
  go_loopg [7, 20] (sortsL d.prods).length (fun u v7 v20 wr => ∃ k : Nat, Hid (u = (sortsL d.prods).length - k) ∧ v20 = .int .i64 (k : Int) ∧ Hid (k ≤ (sortsL d.prods).length ∧ Below w6.heap.size w6 wr ∧ OwnS w6.heap.size v7 (usesN d s k) wr))
  case atStart => exact ⟨0, hide rfl, rfl, hide ⟨Nat.zero_le _, Below.refl _ _, OwnS.nil _ _⟩⟩
  case round =>
    obtain ⟨k, hu, rfl, hh⟩ := hrel
    have hkl := hh.out.1
    by_cases hlt : k < (sortsL d.prods).length
    · have hlti : (k : Int) < ((sortsL d.prods).length : Int) := by omega
      obtain ⟨b, o, rfl, hb, hat⟩ := (HBK6.out.so.below StrAt.stable hh.out.2.1).get hlt
      have hx := hat k hlt
      rw [Nat.mul_one] at hx
      have HSN := hide (usesN_snoc d s k hlt)
      generalize (sortsL d.prods)[k] = t at hx HSN
      clear hat
      obtain ⟨hsh, f0⟩ := hx
      have HSH := hide hsh
      have hlk := (HQ.out.1.below hh.out.2.1).look t hsh
      have HOW := hide hh.out.2.2
      have hml := usesN_le d s k
      have hsl := HSL.out
      have hbs := hh.out.2.1.size
      have hb6 := HB6.out.size
      rcases Classical.em (Reach d.prods namesL s t) with h3 | h3
      · have h4 : metF met t = 1 := by unfold metF; rw [if_pos ((inB_iff t met).2 ((HQ.out.2.1 t).2 h3))]
        rw [h4] at hlk
        replace HSN := hide (HSN.out.trans (if_pos h3))
        clear h3 h4
        go_wp2_with (at_builtin; refine wpList_append_own _ rfl _ _ 56 rfl w6.heap.size 9 i0 (.string ⟨#[]⟩) 1 16 Try.underlying56 hi hz0 hz1 hz2 rfl (by decide) _ _ (strsC (usesN d s k)) rfl (HOW.out.1.alloc _) ⟨wr.heap.size, 0, none⟩ 1 1 [.string t] rfl rfl (cells_at _ _ _ _ rfl) (by intro y hy; simp at hy; subst hy; rfl) (by unfold maxLen; omega) (by omega) (by simp; omega) ?_)
        intro v' w7 hown' hgrow _
        have HG := hide hgrow
        have HO := hide hown'
        clear hgrow hown'
        go_wp2_with fail
        go_roundg ((sortsL d.prods).length - (k + 1))
        case measure => rw [hu.out]; omega
        case rel =>
          have hb2 := hh.out.2.1.alloc hh.out.2.1.size (.cells #[.string t] 9)
          refine ⟨k + 1, hide rfl, by go_num, hide ⟨hlt, ?_, ?_⟩⟩
          · exact hb2.grown HG.out hb2.size (fun g hg => own_block_ge HOW.out.1 g hg)
          · rw [HSN.out]; exact OwnS.push HOW.out.2 HSH.out HO.out rfl
      · have h4 : metF met t = 0 := by unfold metF; rw [if_neg (fun h => h3 ((HQ.out.2.1 t).1 ((inB_iff t met).1 h)))]
        rw [h4] at hlk
        replace HSN := hide (HSN.out.trans (if_neg h3))
        clear h3 h4
        go_wp2_with fail
        go_roundg ((sortsL d.prods).length - (k + 1))
        case measure => rw [hu.out]; omega
        case rel => exact ⟨k + 1, hide rfl, by go_num, hide ⟨hlt, hh.out.2.1, by rw [HSN.out]; exact hh.out.2.2⟩⟩
    · have hlti : ¬ (k : Int) < ((sortsL d.prods).length : Int) := by omega
      have hke : usesN d s k = usesL d s := by unfold usesN usesL; rw [List.take_of_length_le (by omega)]
      have HKE := hide hke
      clear hke
      go_wp2_with fail
      go_ret
      exact ⟨_, rfl, by rw [← HKE.out]; exact hh.out.2.2.base HB6.out.size, below_next HB6.out hh.out.2.1⟩
end Go.Proofs.Ytalicfpcmcbdbaa

set_option linter.unusedVariables false
set_option linter.unusedSimpArgs false
set_option linter.unnecessarySimpa false
set_option linter.deprecated false
namespace Go.Proofs.Ytalicfpcmcbdbaa
open Go.RowKit

set_option maxHeartbeats 800000 in
set_option maxRecDepth 100000 in
theorem in_any (l : List ByteArray) (s : ByteArray) (a : Option Addr) (c : Nat) (w : World) (ha : Row StrAt 1 l a w) : Calls Try.prog 24 #[.slice a l.length c, .string s] w fun e w' => e = .returned (.bool (inB s l)) ∧ w = w' := by
  have HA := hide ha
  have hln := ha.1
  clear ha
  go_enter Try.func24, Try.ntmps24
  go_wp2_with fail
  go_loopg [5] l.length (fun u v5 wr => ∃ k : Nat, Hid (u = l.length - k) ∧ v5 = .int .i64 (k : Int) ∧ Hid (k ≤ l.length ∧ inB s (l.take k) = false ∧ w = wr))
  case atStart => exact ⟨0, hide rfl, rfl, hide ⟨Nat.zero_le _, by rw [List.take_zero]; rfl, rfl⟩⟩
  case round =>
    obtain ⟨k, hu, rfl, hh⟩ := hrel
    have hkl := hh.out.1
    obtain rfl := hh.out.2.2
    by_cases hlt : k < l.length
    · have hlti : (k : Int) < (l.length : Int) := by omega
      obtain ⟨b, o, rfl, hb, hat⟩ := HA.out.get hlt
      have hx := hat k hlt
      rw [Nat.mul_one] at hx
      have HT := hide (take_snoc l k hlt)
      have HM := hide (List.getElem_mem hlt)
      generalize l[k] = t at hx HT HM
      clear hat
      obtain ⟨hsh, f0⟩ := hx
      by_cases he : t = s
      · have h1 : (t.toList == s.toList) = true := by rw [he]; simp
        have h2 : t.toList = s.toList := by rw [he]
        have HF := hide (show inB s l = true from (inB_iff _ _).2 (he ▸ HM.out))
        clear he
        go_wp2_with fail
        go_ret
        exact ⟨by rw [HF.out]; rfl, rfl⟩
      · have h2 : ¬ t.toList = s.toList := fun h => he ((toList_eq_iff _ _).1 h)
        have h1 : (t.toList == s.toList) = false := beq_eq_false_iff_ne.2 h2
        have HE := hide he
        clear he
        go_wp2_with fail
        go_roundg (l.length - (k + 1))
        case measure => rw [hu.out]; omega
        case rel => exact ⟨k + 1, hide rfl, by go_num, hide ⟨hlt, by
          rw [HT.out]
          cases hi : inB s (l.take k ++ [t])
          · rfl
          · have h3 := (inB_iff _ _).1 hi
            rcases List.mem_append.1 h3 with h4 | h4
            · rw [(inB_iff _ _).2 h4] at hh; exact absurd hh.out.2.1 (by decide)
            · simp at h4; exact absurd h4.symm HE.out, rfl⟩⟩
    · have hlti : ¬ (k : Int) < (l.length : Int) := by omega
      have HF := hide (show inB s l = false by have := hh.out.2.1; rw [List.take_of_length_le (by omega)] at this; exact this)
      go_wp2_with fail
      go_ret
      exact ⟨by rw [HF.out]; rfl, rfl⟩
set_option maxHeartbeats 800000 in
set_option maxRecDepth 100000 in
theorem rIn_any (l : List ByteArray) (s : ByteArray) (a : Option Addr) (c : Nat) (w : World) (ha : Row StrAt 1 l a w) : Calls Try.prog 64 #[.slice a l.length c, .string s] w fun e w' => e = .returned (.bool (inB s l)) ∧ w = w' := by
  have HA := hide ha
  have hln := ha.1
  clear ha
  go_enter Try.func64, Try.ntmps64
  go_wp2_with fail
  go_loopg [5] l.length (fun u v5 wr => ∃ k : Nat, Hid (u = l.length - k) ∧ v5 = .int .i64 (k : Int) ∧ Hid (k ≤ l.length ∧ inB s (l.take k) = false ∧ w = wr))
  case atStart => exact ⟨0, hide rfl, rfl, hide ⟨Nat.zero_le _, by rw [List.take_zero]; rfl, rfl⟩⟩
  case round =>
    obtain ⟨k, hu, rfl, hh⟩ := hrel
    have hkl := hh.out.1
    obtain rfl := hh.out.2.2
    by_cases hlt : k < l.length
    · have hlti : (k : Int) < (l.length : Int) := by omega
      obtain ⟨b, o, rfl, hb, hat⟩ := HA.out.get hlt
      have hx := hat k hlt
      rw [Nat.mul_one] at hx
      have HT := hide (take_snoc l k hlt)
      have HM := hide (List.getElem_mem hlt)
      generalize l[k] = t at hx HT HM
      clear hat
      obtain ⟨hsh, f0⟩ := hx
      by_cases he : t = s
      · have h1 : (t.toList == s.toList) = true := by rw [he]; simp
        have h2 : t.toList = s.toList := by rw [he]
        have HF := hide (show inB s l = true from (inB_iff _ _).2 (he ▸ HM.out))
        clear he
        go_wp2_with fail
        go_ret
        exact ⟨by rw [HF.out]; rfl, rfl⟩
      · have h2 : ¬ t.toList = s.toList := fun h => he ((toList_eq_iff _ _).1 h)
        have h1 : (t.toList == s.toList) = false := beq_eq_false_iff_ne.2 h2
        have HE := hide he
        clear he
        go_wp2_with fail
        go_roundg (l.length - (k + 1))
        case measure => rw [hu.out]; omega
        case rel => exact ⟨k + 1, hide rfl, by go_num, hide ⟨hlt, by
          rw [HT.out]
          cases hi : inB s (l.take k ++ [t])
          · rfl
          · have h3 := (inB_iff _ _).1 hi
            rcases List.mem_append.1 h3 with h4 | h4
            · rw [(inB_iff _ _).2 h4] at hh; exact absurd hh.out.2.1 (by decide)
            · simp at h4; exact absurd h4.symm HE.out, rfl⟩⟩
    · have hlti : ¬ (k : Int) < (l.length : Int) := by omega
      have HF := hide (show inB s l = false by have := hh.out.2.1; rw [List.take_of_length_le (by omega)] at this; exact this)
      go_wp2_with fail
      go_ret
      exact ⟨by rw [HF.out]; rfl, rfl⟩
end Go.Proofs.Ytalicfpcmcbdbaa
