/- The reference: SameNames, Cons, Lexical. -/
import Derived.Test.YtalicfpcmcbdbaaZRefS
import Derived.Test.YtalicfpcmcbdbaaZLexF
import Derived.BigQuiet
import Derived.StillTailTactics
set_option linter.unusedVariables false
set_option linter.unusedSimpArgs false
set_option linter.unnecessarySimpa false
set_option linter.deprecated false
namespace Go.Proofs.Ytalicfpcmcbdbaa
open Go.RowKit

set_option maxHeartbeats 800000 in
set_option maxRecDepth 100000 in
theorem sameNames_eq (l : List ByteArray) (a b : Option Addr) (c e : Nat) (w : World) (ha : Row StrAt 1 l a w) (hb : Row StrAt 1 l b w) : Calls Try.prog 26 #[.slice a l.length c, .slice b l.length e] w fun e w' => e = .returned (.bool true) ∧ Below w.heap.size w w' := by
  have HA := hide ha
  have HB := hide hb
  have hln := ha.1
  clear ha hb
  go_enter Try.func26, Try.ntmps26
  go_wp2_with fail
  go_loopg [5] l.length (fun u v5 wr => ∃ k : Nat, Hid (u = l.length - k) ∧ v5 = .int .i64 (k : Int) ∧ Hid (k ≤ l.length ∧ Below w.heap.size w wr))
  case atStart => exact ⟨0, hide rfl, rfl, hide ⟨Nat.zero_le _, Below.refl _ _⟩⟩
  case round =>
    obtain ⟨k, hu, rfl, hh⟩ := hrel
    have hkl := hh.out.1
    by_cases hlt : k < l.length
    · have hlti : (k : Int) < (l.length : Int) := by omega
      obtain ⟨b1, o1, rfl, hb1, hat1⟩ := (HA.out.below StrAt.stable hh.out.2).get hlt
      obtain ⟨b2, o2, rfl, hb2, hat2⟩ := (HB.out.below StrAt.stable hh.out.2).get hlt
      have hx1 := hat1 k hlt
      have hx2 := hat2 k hlt
      rw [Nat.mul_one] at hx1 hx2
      generalize l[k] = n at hx1 hx2
      have f1 := hx1.2
      have f2 := hx2.2
      have hnn : (n.toList == n.toList) = true := by simp
      clear hat1 hat2 hx1 hx2
      go_upto_region 6 with fail
      go_quiet (fail)
      go_wp2_with fail
      go_roundg (l.length - (k + 1))
      case measure => rw [hu.out]; omega
      case rel => exact ⟨k + 1, hide rfl, by go_num, hide ⟨hlt, hh.out.2.trans ⟨rfl, rfl, rfl, Nat.le_refl _, fun _ _ => rfl⟩⟩⟩
    · have hlti : ¬ (k : Int) < (l.length : Int) := by omega
      go_wp2_with fail
      go_ret
      exact ⟨rfl, hh.out.2⟩
set_option maxHeartbeats 800000 in
set_option maxRecDepth 100000 in
theorem rCons_any (d : Df) (a2 : Option Addr) (c2 : Nat) (a3 : Option Addr) (c3 : Nat) (a4 : Option Addr) (c4 : Nat) (a5 : Option Addr) (c5 : Nat) (a6 : Option Addr) (c6 : Nat) (s : ByteArray) (w : World) (hd : RD d ⟨a2, c2, a3, c3, a4, c4, a5, c5, a6, c6⟩ w) : Calls Try.prog 30 #[.agg #[.string d.start, .string d.layout, .slice a2 d.prods.length c2, .slice a3 d.chains.length c3, .slice a4 d.follows.length c4, .slice a5 d.rejects.length c5, .slice a6 d.boxes.length c6], .string s] w fun e w' => e = .returned (.int .i64 (consIdx d.prods s)) ∧ Below w.heap.size w w' := by
  have HB0 := hide ((Below.refl w.heap.size w).alloc (Nat.le_refl _) (.cells #[.string d.start, .string d.layout, .slice a2 d.prods.length c2, .slice a3 d.chains.length c3, .slice a4 d.follows.length c4, .slice a5 d.rejects.length c5, .slice a6 d.boxes.length c6] 28))
  have HX0 := hide (Blk.new w #[.string d.start, .string d.layout, .slice a2 d.prods.length c2, .slice a3 d.chains.length c3, .slice a4 d.follows.length c4, .slice a5 d.rejects.length c5, .slice a6 d.boxes.length c6] 28)
  have HD := hide (hd.below HB0.out)
  have hl2 := hd.p.1
  clear hd
  go_enter Try.func30, Try.ntmps30
  go_upto_region 1 with fail
  obtain ⟨kx, hkx⟩ : ∃ kx, w.heap.size = kx := ⟨_, rfl⟩
  obtain ⟨w1, h1⟩ : ∃ w1, w.alloc (.cells #[.string d.start, .string d.layout, .slice a2 d.prods.length c2, .slice a3 d.chains.length c3, .slice a4 d.follows.length c4, .slice a5 d.rejects.length c5, .slice a6 d.boxes.length c6] 28) = w1 := ⟨_, rfl⟩
  rw [h1] at HD HB0 HX0 ⊢
  rw [hkx] at HX0 ⊢
  clear h1 hkx
  go_wp2_with fail
  go_loopg [5] d.prods.length (fun u v5 wr => ∃ k : Nat, Hid (u = d.prods.length - k) ∧ v5 = .int .i64 (k : Int) ∧ Hid (k ≤ d.prods.length ∧ w1 = wr ∧ (emp s = false → ∀ j (h : j < d.prods.length), j < k → isCons s d.prods[j] = false)))
  case atStart => exact ⟨0, hide rfl, rfl, hide ⟨Nat.zero_le _, rfl, fun _ _ _ h => absurd h (Nat.not_lt_zero _)⟩⟩
  case round =>
    obtain ⟨k, hu, rfl, hh⟩ := hrel
    have hkl := hh.out.1
    obtain rfl := hh.out.2.1
    have x2 := HX0.out.cell 2
    have xl := HX0.out.lt
    by_cases hlt : k < d.prods.length
    · have hlti : (k : Int) < (d.prods.length : Int) := by omega
      obtain ⟨b, o, rfl, hb, hat⟩ := HD.out.p.get hlt
      have hx := hat k hlt
      have HNX := hide (fun (hf : emp s = false → isCons s d.prods[k] = false) (he : emp s = false) => (show ∀ j (h : j < d.prods.length), j < k + 1 → isCons s d.prods[j] = false from fun j h hj => by
        by_cases e : j = k
        · subst e; exact hf he
        · exact hh.out.2.2 he j h (by omega)))
      have HHI := hide (fun (he : emp s = false) (ht : isCons s d.prods[k] = true) => (show consIdx d.prods s = (k : Int) by
        unfold consIdx
        rw [if_neg (by rw [he]; decide), fIdx_hit _ d.prods 0 k hlt (hh.out.2.2 he) ht]; congr 1; omega))
      generalize d.prods[k] = p at hx HNX HHI
      clear hat
      obtain ⟨ap, cp, ⟨e0, e1, e2, e3, e4⟩, hrow⟩ := hx.cells
      clear hx hrow hh
      obtain ⟨lx, hlx⟩ : ∃ lx, p.lex = lx := ⟨_, rfl⟩
      rw [hlx] at e0
      have HLX := hide hlx
      clear hlx
      cases lx with
      | true =>
        have HN := hide (HNX.out (fun _ => by unfold isCons; rw [HLX.out]; rfl))
        go_wp2_with fail
        go_roundg (d.prods.length - (k + 1))
        case measure => rw [hu.out]; omega
        case rel => exact ⟨k + 1, hide rfl, by go_num, hide ⟨hlt, rfl, HN.out⟩⟩
      | false =>
        by_cases he : p.cons = s
        · have h2 : p.cons.toList = s.toList := by rw [he]
          have h1 : (p.cons.toList == s.toList) = true := by rw [he]; simp
          have HE := hide he
          clear he
          rcases emp_or s with ⟨bn, zn, yn, vn, xn⟩ | ⟨bn, zn, yn, vn, xn⟩
          · have hne : (s.toList == []) = true := by rw [xn]; rfl
            have hne2 : (!s.toList == []) = false := by rw [hne]; rfl
            have HN := hide (HNX.out (fun h => by rw [zn.out] at h; cases h))
            go_wp2_with fail
            go_roundg (d.prods.length - (k + 1))
            case measure => rw [hu.out]; omega
            case rel => exact ⟨k + 1, hide rfl, by go_num, hide ⟨hlt, rfl, HN.out⟩⟩
          · have hne : (s.toList == []) = false := beq_eq_false_iff_ne.2 xn
            have hne2 : (!s.toList == []) = true := by rw [hne]; rfl
            have HR := hide (HHI.out zn.out (by unfold isCons; rw [HLX.out, HE.out]; simp))
            go_wp2_with fail
            go_ret
            exact ⟨by rw [HR.out]; rfl, HB0.out⟩
        · have h2 : ¬ p.cons.toList = s.toList := fun h => he ((toList_eq_iff _ _).1 h)
          have h1 : (p.cons.toList == s.toList) = false := beq_eq_false_iff_ne.2 h2
          have HN := hide (HNX.out (fun _ => by unfold isCons; rw [decide_eq_false he]; simp))
          clear he
          go_wp2_with fail
          go_roundg (d.prods.length - (k + 1))
          case measure => rw [hu.out]; omega
          case rel => exact ⟨k + 1, hide rfl, by go_num, hide ⟨hlt, rfl, HN.out⟩⟩
    · have hlti : ¬ (k : Int) < (d.prods.length : Int) := by omega
      have HR := hide (show consIdx d.prods s = -1 by
        unfold consIdx
        cases he : emp s
        · rw [if_neg (by decide), fIdx_miss _ d.prods 0 (fun j h => hh.out.2.2 he j h (by omega))]
        · rw [if_pos rfl])
      go_wp2_with fail
      go_ret
      exact ⟨by rw [HR.out]; rfl, HB0.out⟩
set_option maxHeartbeats 800000 in
set_option maxRecDepth 100000 in
theorem rLexical_any (d : Df) (a2 : Option Addr) (c2 : Nat) (a3 : Option Addr) (c3 : Nat) (a4 : Option Addr) (c4 : Nat) (a5 : Option Addr) (c5 : Nat) (a6 : Option Addr) (c6 : Nat) (w : World) (hd : RD d ⟨a2, c2, a3, c3, a4, c4, a5, c5, a6, c6⟩ w) (hln : d.prods.length ≤ 100000) : Calls Try.prog 28 #[.agg #[.string d.start, .string d.layout, .slice a2 d.prods.length c2, .slice a3 d.chains.length c3, .slice a4 d.follows.length c4, .slice a5 d.rejects.length c5, .slice a6 d.boxes.length c6]] w fun e w' => ∃ v, e = .returned v ∧ OwnS w.heap.size v (lexL d) w' ∧ Below w.heap.size w w' := by
  obtain ⟨i0, hi, hz0, hz1, hz2⟩ := info_parts info9
  have HLN := hide hln
  clear hln
  have HB0 := hide ((Below.refl w.heap.size w).alloc (Nat.le_refl _) (.cells #[.string d.start, .string d.layout, .slice a2 d.prods.length c2, .slice a3 d.chains.length c3, .slice a4 d.follows.length c4, .slice a5 d.rejects.length c5, .slice a6 d.boxes.length c6] 28))
  have HX0 := hide (Blk.new w #[.string d.start, .string d.layout, .slice a2 d.prods.length c2, .slice a3 d.chains.length c3, .slice a4 d.follows.length c4, .slice a5 d.rejects.length c5, .slice a6 d.boxes.length c6] 28)
  have HD := hide (hd.below HB0.out)
  have hl2 := hd.p.1
  clear hd
  go_enter Try.func28, Try.ntmps28
  go_upto_region 2 with fail
  obtain ⟨kx, hkx⟩ : ∃ kx, w.heap.size = kx := ⟨_, rfl⟩
  obtain ⟨w1, h1⟩ : ∃ w1, w.alloc (.cells #[.string d.start, .string d.layout, .slice a2 d.prods.length c2, .slice a3 d.chains.length c3, .slice a4 d.follows.length c4, .slice a5 d.rejects.length c5, .slice a6 d.boxes.length c6] 28) = w1 := ⟨_, rfl⟩
  rw [h1] at HD HB0 HX0 ⊢
  rw [hkx] at HX0 ⊢
  clear h1 hkx
  have HSO := hide (rSorts_any d a2 c2 a3 c3 a4 c4 a5 c5 a6 c6 w1 HD.out HLN.out)
  have x0 := HX0.out.cell 0
  have x1 := HX0.out.cell 1
  have x2 := HX0.out.cell 2
  have x3 := HX0.out.cell 3
  have x4 := HX0.out.cell 4
  have x5 := HX0.out.cell 5
  have x6 := HX0.out.cell 6
  have xl := HX0.out.lt
  go_wp2_with fail
  refine HSO.out.mono ?_
  rintro e w2 ⟨v, rfl, ho, hb2⟩
  have hsl := sortsL_len d.prods
  have hsl2 := HLN.out
  obtain ⟨a7, c7, rfl, hr7⟩ := ho.row (by omega)
  have HR7 := hide hr7
  have HX2 := hide (HX0.out.below hb2)
  have HD2 := hide (HD.out.below hb2)
  have HB2 := hide (below_next HB0.out hb2)
  clear x0 x1 x2 x3 x4 x5 x6 xl ho hb2 hr7 HX0 HD HB0 HSO
  have HLX := hide (show lexL d = (sortsL d.prods).filter (fun s => isLex d.prods s true) from rfl)
  have hlen := Nat.le_trans hsl hsl2
  clear hsl hsl2
  generalize sortsL d.prods = L at HR7 HLX hlen ⊢
  go_wp2_with fail
  go_loopg [3, 5] L.length (fun u v3 v5 wr => ∃ k : Nat, Hid (u = L.length - k) ∧ v5 = .int .i64 (k : Int) ∧ Hid (k ≤ L.length ∧ Below w2.heap.size w2 wr ∧ OwnS w2.heap.size v3 ((L.take k).filter (fun s => isLex d.prods s true)) wr))
  case atStart => exact ⟨0, hide rfl, rfl, hide ⟨Nat.zero_le _, Below.refl _ _, OwnS.nil _ _⟩⟩
  case round =>
    obtain ⟨k, hu, rfl, hh⟩ := hrel
    have hkl := hh.out.1
    by_cases hlt : k < L.length
    · have hlti : (k : Int) < (L.length : Int) := by omega
      obtain ⟨b, o, rfl, hb, hat⟩ := (HR7.out.below StrAt.stable hh.out.2.1).get hlt
      have hx := hat k hlt
      rw [Nat.mul_one] at hx
      have HTK := hide (take_snoc L k hlt)
      generalize L[k] = t at hx HTK
      clear hat
      obtain ⟨hsh, f0⟩ := hx
      have HSH := hide hsh
      have HF0 := hide (show ∀ W, Below wr.heap.size wr W → W.cell? ⟨b, o + k, none⟩ = some (.string t) from fun W h => (h.cell (p := ⟨b, o + k, none⟩) hb).trans f0)
      have HHB := hide hb
      have hx2 := HX2.out.below hh.out.2.1
      have x0 := hx2.cell 0
      have x1 := hx2.cell 1
      have x2 := hx2.cell 2
      have x3 := hx2.cell 3
      have x4 := hx2.cell 4
      have x5 := hx2.cell 5
      have x6 := hx2.cell 6
      have xl := hx2.lt
      have HC := hide (rIsLex_any d a2 c2 a3 c3 a4 c4 a5 c5 a6 c6 t true wr.drew (HD2.out.below hh.out.2.1.drew))
      obtain ⟨q, hq⟩ : ∃ q, isLex d.prods t true = q := ⟨_, rfl⟩
      rw [hq] at HC
      have HQ := hide hq
      clear hsh hq hx2
      go_upto_region 6 with fail
      go_still_tail 5, (by kernel_rfl)
      change wpList _ _ _ _ _ wr.drew
      go_wp2_with fail
      refine HC.out.mono ?_
      rintro e w5 ⟨rfl, hb5⟩
      have hb5' : Below wr.heap.size wr w5 := below_next (Below.refl wr.heap.size wr).drew hb5
      have HB5 := hide hb5'
      have HOW := hide (hh.out.2.2.below hb5')
      have HB25 := hide (below_next hh.out.2.1 hb5')
      have f5 := HF0.out w5 hb5'
      have hb55 : b < w5.heap.size := Nat.lt_of_lt_of_le HHB.out hb5'.size
      have hml : ((L.take k).filter (fun s => isLex d.prods s true)).length ≤ 100000 := by
        have h1 := List.length_filter_le (fun s => isLex d.prods s true) (L.take k)
        rw [List.length_take] at h1; omega
      have hbs := HB25.out.size
      clear f0 hb x0 x1 x2 x3 x4 x5 x6 xl hb5 hb5' hh
      cases q with
      | false =>
        have HA := hide (show (L.take (k + 1)).filter (fun s => isLex d.prods s true) = (L.take k).filter (fun s => isLex d.prods s true) by rw [HTK.out, List.filter_append]; simp [HQ.out])
        go_wp2_with fail
        go_roundg (L.length - (k + 1))
        case measure => rw [hu.out]; omega
        case rel => exact ⟨k + 1, hide rfl, by go_num, hide ⟨hlt, HB25.out, by rw [HA.out]; exact HOW.out⟩⟩
      | true =>
        have HA := hide (show (L.take (k + 1)).filter (fun s => isLex d.prods s true) = (L.take k).filter (fun s => isLex d.prods s true) ++ [t] by rw [HTK.out, List.filter_append]; simp [HQ.out])
        generalize (L.take k).filter (fun s => isLex d.prods s true) = l0 at HOW HA hml ⊢
        go_wp2_with (at_builtin; refine wpList_append_own _ rfl _ _ 56 rfl w2.heap.size 9 i0 (.string ⟨#[]⟩) 1 16 Try.underlying56 hi hz0 hz1 hz2 rfl (by decide) _ _ (strsC l0) rfl (HOW.out.1.alloc _) ⟨w5.heap.size, 0, none⟩ 1 1 [.string t] rfl rfl (cells_at _ _ _ _ rfl) (by intro y hy; simp at hy; subst hy; rfl) (by unfold maxLen; omega) (by omega) (by simp; omega) ?_)
        intro v' w7 hown' hgrow _
        have HG := hide hgrow
        have HO := hide hown'
        clear hgrow hown'
        go_wp2_with fail
        go_roundg (L.length - (k + 1))
        case measure => rw [hu.out]; omega
        case rel =>
          have hb2 := HB25.out.alloc HB25.out.size (.cells #[.string t] 9)
          exact ⟨k + 1, hide rfl, by go_num, hide ⟨hlt, hb2.grown HG.out hb2.size (fun g hg => own_block_ge HOW.out.1 g hg), by rw [HA.out]; exact OwnS.push HOW.out.2 HSH.out HO.out rfl⟩⟩
    · have hlti : ¬ (k : Int) < (L.length : Int) := by omega
      have HO := hide hh.out.2.2
      rw [List.take_of_length_le (by omega), ← HLX.out] at HO
      go_wp2_with fail
      go_ret
      exact ⟨_, rfl, HO.out.base HB2.out.size, below_next HB2.out hh.out.2.1⟩
end Go.Proofs.Ytalicfpcmcbdbaa
