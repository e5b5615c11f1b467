/- The walks of kind and null. -/
import Derived.Test.YtalicfpcmcbdbaaZLook2
import Derived.Test.YtalicfpcmcbdbaaZCons
import Derived.Test.YtalicfpcmcbdbaaZRProd
import Derived.Test.YtalicfpcmcbdbaaZLeft
set_option linter.unusedVariables false
set_option linter.unusedSimpArgs false
set_option linter.unnecessarySimpa false
set_option linter.deprecated false
namespace Go.Proofs.Ytalicfpcmcbdbaa
open Go.RowKit

def kindS (d : Df) (lx : Bool) (s : Sy) : Bool := if lx = true then !emp s.sep || (!emp s.name && !isLex d.prods s.name true) else !decide (s.kind = 1) && (emp s.name || decide (s.name = d.layout))
def kindB (d : Df) (p : Pd) : Bool := p.syms.any (kindS d p.lex)
set_option maxHeartbeats 4000000 in
set_option maxRecDepth 100000 in
theorem kind1_any (d : Df) (a2 : Option Addr) (c2 : Nat) (a3 : Option Addr) (c3 : Nat) (a4 : Option Addr) (c4 : Nat) (a5 : Option Addr) (c5 : Nat) (a6 : Option Addr) (c6 : Nat) (as_ : Option Addr) (cs m n : Nat) (bb : Nat) (p : Pd) (ap : Option Addr) (cp kp kb : Nat) (x : Sy) (hx : x.ok) (w : World) (hbk : Book d a2 c2 a3 c3 a4 c4 a5 c5 a6 c6 as_ cs m n bb w) (hkp : Blk w kp #[.bool p.lex, .string p.sort, .string p.cons, .bool p.bracket, .slice ap p.syms.length cp] 38) (hkb : Blk w kb #[.pointer (some ⟨bb, 0, none⟩)] 70) :
    Calls Try.prog 71 #[.agg #[.int .i64 x.kind, .string x.text, .int .u64 (x.set.w0 : Int), .int .u64 (x.set.w1 : Int), .int .u64 (x.set.w2 : Int), .int .u64 (x.set.w3 : Int), .string x.name, .string x.sep], .pointer (some ⟨kp, 0, none⟩), .pointer (some ⟨kb, 0, none⟩)] w fun e w' => e = .returned (.bool (kindS d p.lex x)) ∧ Below w.heap.size w w' := by
  have HB := hide ((Below.refl w.heap.size w).alloc (Nat.le_refl _) (.cells #[.int .i64 x.kind, .string x.text, .int .u64 (x.set.w0 : Int), .int .u64 (x.set.w1 : Int), .int .u64 (x.set.w2 : Int), .int .u64 (x.set.w3 : Int), .string x.name, .string x.sep] 61))
  obtain ⟨kd, t, st, nm, sp⟩ := x
  have hsn : short nm := hx.n
  have HBK := hide (hbk.below HB.out)
  obtain ⟨lx, so, cn, br, sy⟩ := p
  have kp0 : w.cell? ⟨kp, 0, none⟩ = some (.bool lx) := hkp.cell 0
  have kpl := hkp.lt
  have kb0 := hkb.cell 0
  have kbl := hkb.lt
  have bk1 := hbk.bk.cell 1
  have bkl := hbk.bk.lt
  obtain ⟨res, hres⟩ : ∃ r, kindS d (⟨lx, so, cn, br, sy⟩ : Pd).lex ⟨kd, t, st, nm, sp⟩ = r := ⟨_, rfl⟩
  rw [hres]
  have HS := hide (show kindS d lx ⟨kd, t, st, nm, sp⟩ = res from hres)
  clear hx hbk hkp hkb hres
  cases lx
  · by_cases h1 : kd = 1
    · subst h1
      have HF := hide (show res = false by rw [← HS.out]; unfold kindS; simp)
      clear HS
      go_enter Try.func71, Try.ntmps71
      go_upto_region 3 with fail
      go_quiet (fail)
      go_wp2_with fail
      go_ret
      exact ⟨by rw [HF.out]; rfl, HB.out.trans ⟨rfl, rfl, rfl, Nat.le_refl _, fun _ _ => rfl⟩⟩
    · have n1 : (kd == 1) = false := by simpa using h1
      have n2 : (!kd == 1) = true := by rw [n1]; rfl
      have n3 : (kd != 1) = true := by simpa using h1
      have n4 : decide (kd = 1) = false := by simpa using h1
      rcases emp_or nm with ⟨bn, zn, y1, y2, y3⟩ | ⟨bn, zn, y1, y2, y3⟩
      · have HF := hide (show res = true by rw [← HS.out]; unfold kindS; simp [h1, zn.out])
        clear HS
        go_enter Try.func71, Try.ntmps71
        go_upto_region 3 with fail
        go_quiet (fail)
        go_wp2_with fail
        go_ret
        exact ⟨by rw [HF.out]; rfl, HB.out.trans ⟨rfl, rfl, rfl, Nat.le_refl _, fun _ _ => rfl⟩⟩
      · obtain ⟨q, hq⟩ : ∃ q, decide (nm = d.layout) = q := ⟨_, rfl⟩
        have HF := hide (show res = q by rw [← HS.out]; unfold kindS; simp [h1, zn.out, ← hq])
        have hqq : (nm.toList == d.layout.toList) = q := by rw [← hq, Bool.eq_iff_iff]; simp [toList_eq_iff]
        clear HS hq
        go_enter Try.func71, Try.ntmps71
        go_upto_region 3 with fail
        go_quiet (fail)
        go_wp2_with fail
        go_ret
        exact ⟨by rw [HF.out, ← hqq]; simp, HB.out.trans ⟨rfl, rfl, rfl, Nat.le_refl _, fun _ _ => rfl⟩⟩
  · rcases emp_or sp with ⟨bs, zs, u1, u2, u3⟩ | ⟨bs, zs, u1, u2, u3⟩
    · rcases emp_or nm with ⟨bn, zn, y1, y2, y3⟩ | ⟨bn, zn, y1, y2, y3⟩
      · have HF := hide (show res = false by rw [← HS.out]; unfold kindS; simp [zs.out, zn.out])
        clear HS
        go_enter Try.func71, Try.ntmps71
        go_wp2_with fail
        go_ret
        exact ⟨by rw [HF.out]; rfl, HB.out⟩
      · have HF := hide (show res = !isLex d.prods nm true by rw [← HS.out]; unfold kindS; simp [zs.out, zn.out])
        have HL := hide (lexical_any d a2 c2 a3 c3 a4 c4 a5 c5 a6 c6 as_ cs m n bb nm _ HBK.out hsn)
        clear HS
        go_enter Try.func71, Try.ntmps71
        go_wp2_with (go_at_call 63; refine HL.out.mono ?_; rintro e w' ⟨rfl, rfl⟩)
        go_ret
        exact ⟨by rw [HF.out]; rfl, HB.out⟩
    · have HF := hide (show res = true by rw [← HS.out]; unfold kindS; simp [zs.out])
      clear HS
      go_enter Try.func71, Try.ntmps71
      go_wp2_with fail
      go_ret
      exact ⟨by rw [HF.out]; rfl, HB.out⟩
set_option maxHeartbeats 4000000 in
set_option maxRecDepth 100000 in
theorem kind_any (d : Df) (a2 : Option Addr) (c2 : Nat) (a3 : Option Addr) (c3 : Nat) (a4 : Option Addr) (c4 : Nat) (a5 : Option Addr) (c5 : Nat) (a6 : Option Addr) (c6 : Nat) (as_ : Option Addr) (cs m n : Nat) (bb : Nat) (p : Pd) (ap : Option Addr) (cp : Nat) (w : World) (hbk : Book d a2 c2 a3 c3 a4 c4 a5 c5 a6 c6 as_ cs m n bb w) (hr : Row SyAt 8 p.syms ap w) :
    Calls Try.prog 40 #[.pointer (some ⟨bb, 0, none⟩), .agg #[.bool p.lex, .string p.sort, .string p.cons, .bool p.bracket, .slice ap p.syms.length cp]] w fun e w' => e = .returned (.bool (kindB d p)) ∧ Below w.heap.size w w' := by
  have HB := hide (NB.alloc (NB.alloc (Below.refl w.heap.size w) (.cells #[.pointer (some ⟨bb, 0, none⟩)] 70)) (.cells #[.bool p.lex, .string p.sort, .string p.cons, .bool p.bracket, .slice ap p.syms.length cp] 38))
  have HK1 := hide (show Blk ((w.alloc (.cells #[.pointer (some ⟨bb, 0, none⟩)] 70)).alloc (.cells #[.bool p.lex, .string p.sort, .string p.cons, .bool p.bracket, .slice ap p.syms.length cp] 38)) w.heap.size #[.pointer (some ⟨bb, 0, none⟩)] 70 from (Blk.new w _ _).alloc _)
  have HK2 := hide (show Blk ((w.alloc (.cells #[.pointer (some ⟨bb, 0, none⟩)] 70)).alloc (.cells #[.bool p.lex, .string p.sort, .string p.cons, .bool p.bracket, .slice ap p.syms.length cp] 38)) (w.heap.size + 1) #[.bool p.lex, .string p.sort, .string p.cons, .bool p.bracket, .slice ap p.syms.length cp] 38 from NB.new1)
  have HC := hide (conSym 71 #[.pointer (some ⟨w.heap.size + 1, 0, none⟩), .pointer (some ⟨w.heap.size, 0, none⟩)] (by intro args w; exact enters_of Try.func71 (by kernel_rfl) rfl args w) (kindS d p.lex) p.syms ap cp _ (hr.below SyAt.stable HB.out) (fun W x b o _ hW _ hat => (kind1_any d a2 c2 a3 c3 a4 c4 a5 c5 a6 c6 as_ cs m n bb p ap cp (w.heap.size + 1) w.heap.size x hat.1 W (hbk.below (below_next HB.out hW)) (HK2.out.below hW) (HK1.out.below hW)).mono (fun e w' h => ⟨h.1, below_next hW h.2⟩)))
  clear hbk hr
  go_enter Try.func40, Try.ntmps40
  go_wp2_with (go_at_call 70; refine HC.out.mono ?_; rintro e w' ⟨rfl, hb⟩)
  go_ret
  exact ⟨rfl, below_next HB.out hb⟩
def nullS (s : Sy) : Bool := decide (s.kind = 1) && emp s.text
def nullB (p : Pd) : Bool := p.syms.any nullS || p.syms.all leftB
set_option maxHeartbeats 4000000 in
set_option maxRecDepth 100000 in
theorem null_any (bb : Nat) (p : Pd) (ap : Option Addr) (cp : Nat) (w : World) (hr : Row SyAt 8 p.syms ap w) :
    Calls Try.prog 44 #[.pointer (some ⟨bb, 0, none⟩), .agg #[.bool p.lex, .string p.sort, .string p.cons, .bool p.bracket, .slice ap p.syms.length cp]] w fun e w' => e = .returned (.bool (nullB p)) ∧ Below w.heap.size w w' := by
  have HB0 := hide ((Below.refl w.heap.size w).alloc (Nat.le_refl _) (.cells #[.bool p.lex, .string p.sort, .string p.cons, .bool p.bracket, .slice ap p.syms.length cp] 38))
  have HR := hide (hr.below SyAt.stable HB0.out)
  have hln := hr.1
  obtain ⟨res, hres⟩ : ∃ r, nullB p = r := ⟨_, rfl⟩
  rw [hres]
  have HRES := hide hres
  clear hr hres
  go_enter Try.func44, Try.ntmps44
  go_wp2_with fail
  generalize w.alloc (.cells #[.bool p.lex, .string p.sort, .string p.cons, .bool p.bracket, .slice ap p.syms.length cp] 38) = w1 at HR HB0 ⊢
  go_loopg [5, 11] p.syms.length (fun u v5 v11 wr => ∃ k : Nat, Hid (u = p.syms.length - k) ∧ v11 = .int .i64 (k : Int) ∧ v5 = .bool ((p.syms.take k).all leftB) ∧ Hid (k ≤ p.syms.length ∧ Below w1.heap.size w1 wr ∧ ∀ j (h : j < p.syms.length), j < k → nullS p.syms[j] = false))
  case atStart => exact ⟨0, hide rfl, rfl, rfl, hide ⟨Nat.zero_le _, Below.refl _ _, fun j _ h => by omega⟩⟩
  case round =>
    obtain ⟨k, hu, rfl, rfl, hh⟩ := hrel
    have hkl := hh.out.1
    by_cases hlt : k < p.syms.length
    · have hlti : (k : Int) < (p.syms.length : Int) := by omega
      obtain ⟨b, o, rfl, hb, hat⟩ := (HR.out.below SyAt.stable hh.out.2.1).get hlt
      have hx := hat k hlt
      have hts := take_snoc p.syms k hlt
      have HNX := hide (fun (h : nullS p.syms[k] = false) => none_next (f := nullS) (l := p.syms) (k := k) hh.out.2.2 (fun _ => rfl) h)
      have HHI := hide (fun (h : nullS p.syms[k] = true) => (show nullB p = true by unfold nullB; rw [Bool.or_eq_true]; left; exact List.any_eq_true.2 ⟨_, List.getElem_mem hlt, h⟩))
      have HAL := hide (fun (bx : Bool) (h : leftB p.syms[k] = bx) => (show (p.syms.take (k + 1)).all leftB = ((p.syms.take k).all leftB && bx) by rw [hts, List.all_append]; simp [h]))
      generalize p.syms[k] = x at hx HNX HHI HAL
      clear hat hts
      obtain ⟨kd, t, st, nm, sp⟩ := x
      obtain ⟨e0, e1, e2, e3, e4, e5, e6, e7⟩ := hx.cells
      have HL := hide (fun W => left_any ⟨kd, t, st, nm, sp⟩ W)
      have HBX := hide ((Below.refl wr.heap.size wr).alloc (Nat.le_refl _) (.cells #[.int .i64 kd, .string t, .int .u64 (st.w0 : Int), .int .u64 (st.w1 : Int), .int .u64 (st.w2 : Int), .int .u64 (st.w3 : Int), .string nm, .string sp] 61))
      obtain ⟨al, hal⟩ : ∃ a, (p.syms.take k).all leftB = a := ⟨_, rfl⟩
      rw [hal] at HAL
      have HAK := hide hal
      rw [hal]
      clear hx hal
      have two : nullS ⟨kd, t, st, nm, sp⟩ = false ∨ (kd = 1 ∧ emp t = true) := by
        unfold nullS
        by_cases h : kd = 1
        · cases he : emp t
          · left; simp
          · exact Or.inr ⟨h, rfl⟩
        · left; simp [h]
      have HTWO := hide two
      clear two
      by_cases hnul : kd = 1 ∧ emp t = true
      · obtain ⟨rfl, het⟩ := hnul
        have HF := hide (HHI.out (by unfold nullS; rw [het]; rfl))
        rcases emp_or t with ⟨bt, zt, y1, y2, y3⟩ | ⟨bt, zt, y1, y2, y3⟩
        · go_wp2_with fail
          go_ret
          exact ⟨by rw [← HRES.out, HF.out]; rfl, below_next HB0.out (below_next hh.out.2.1 HBX.out)⟩
        · rw [het] at zt; exact absurd zt.out (by decide)
      · have HN := hide (HNX.out ((HTWO.out).elim id (fun h => absurd h hnul)))
        have hcase : (kd = 1 ∧ emp t = false) ∨ ¬ kd = 1 := by
          by_cases h : kd = 1
          · left
            refine ⟨h, ?_⟩
            cases he : emp t
            · rfl
            · exact absurd ⟨h, he⟩ hnul
          · exact Or.inr h
        clear HTWO hnul HHI HNX
        have fin : ∀ (bx : Bool) wx, leftB ⟨kd, t, st, nm, sp⟩ = bx → Below wr.heap.size wr wx → Hid (((p.syms.take (k + 1)).all leftB = (al && bx)) ∧ Below w1.heap.size w1 wx) := fun bx wx h hb => hide ⟨HAL.out bx h, below_next hh.out.2.1 hb⟩
        have HFIN := hide fin
        clear fin
        rcases hcase with ⟨rfl, het⟩ | h1
        · rcases emp_or t with ⟨bt, zt, y1, y2, y3⟩ | ⟨bt, zt, y1, y2, y3⟩
          · rw [het] at zt; exact absurd zt.out (by decide)
          · clear het
            cases al
            · go_wp2_with fail
              go_roundg (p.syms.length - (k + 1))
              case measure => rw [hu.out]; omega
              case rel =>
                have hz := (HFIN.out _ _ rfl HBX.out).out
                exact ⟨k + 1, hide rfl, by go_num, by rw [hz.1]; rfl, hide ⟨hlt, hz.2, HN.out⟩⟩
            · go_wp2_with (go_at_call 72; refine (HL.out _).mono ?_; rintro e w' ⟨rfl, hb'⟩)
              go_roundg (p.syms.length - (k + 1))
              case measure => rw [hu.out]; omega
              case rel =>
                have hz := (HFIN.out _ _ rfl (below_next HBX.out hb')).out
                exact ⟨k + 1, hide rfl, by go_num, by rw [hz.1]; rfl, hide ⟨hlt, hz.2, HN.out⟩⟩
        · have n1 : (kd == 1) = false := by simpa using h1
          clear h1
          cases al
          · go_wp2_with fail
            go_roundg (p.syms.length - (k + 1))
            case measure => rw [hu.out]; omega
            case rel =>
              have hz := (HFIN.out _ _ rfl HBX.out).out
              exact ⟨k + 1, hide rfl, by go_num, by rw [hz.1]; rfl, hide ⟨hlt, hz.2, HN.out⟩⟩
          · go_wp2_with (go_at_call 72; refine (HL.out _).mono ?_; rintro e w' ⟨rfl, hb'⟩)
            go_roundg (p.syms.length - (k + 1))
            case measure => rw [hu.out]; omega
            case rel =>
              have hz := (HFIN.out _ _ rfl (below_next HBX.out hb')).out
              exact ⟨k + 1, hide rfl, by go_num, by rw [hz.1]; rfl, hide ⟨hlt, hz.2, HN.out⟩⟩
    · have hlti : ¬ (k : Int) < (p.syms.length : Int) := by omega
      have hke : p.syms.take k = p.syms := List.take_of_length_le (by omega)
      have HNO := hide (show p.syms.any nullS = false by
        rw [List.any_eq_false]
        intro x hx
        obtain ⟨i, hi, rfl⟩ := List.mem_iff_getElem.1 hx
        rw [hh.out.2.2 i hi (by omega)]
        decide)
      rw [hke]
      go_wp2_with fail
      go_ret
      refine ⟨?_, below_next HB0.out hh.out.2.1⟩
      rw [← HRES.out]
      unfold nullB
      rw [HNO.out]
      rfl
end Go.Proofs.Ytalicfpcmcbdbaa
