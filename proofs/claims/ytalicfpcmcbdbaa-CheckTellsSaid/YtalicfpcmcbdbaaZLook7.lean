/- The walks of kind and null. The walk of bracket. The walk of cons. The walk of long. The walk of ends. -/
import Derived.Test.YtalicfpcmcbdbaaZLook2
import Derived.Test.YtalicfpcmcbdbaaZCons
import Derived.Test.YtalicfpcmcbdbaaZRProd
import Derived.Test.YtalicfpcmcbdbaaZLeft
import Derived.Test.YtalicfpcmcbdbaaZTurn
import Derived.Test.YtalicfpcmcbdbaaZNames
import Derived.Test.YtalicfpcmcbdbaaZRSym
set_option linter.unusedVariables false
set_option linter.unusedSimpArgs false
set_option linter.unnecessarySimpa false
set_option linter.deprecated false
namespace Go.Proofs.Ytalicfpcmcbdbaa
open Go.RowKit

def kindS (d : Df) (lx : Bool) (s : Sy) : Bool := if lx = true then !emp s.sep || (!emp s.name && !isLex d.prods s.name true) else !decide (s.kind = 1) && (emp s.name || decide (s.name = d.layout))
def kindB (d : Df) (p : Pd) : Bool := p.syms.any (kindS d p.lex)
set_option maxHeartbeats 4000000 in
set_option maxRecDepth 100000 in
theorem kind1_any (d : Df) (a2 : Option Addr) (c2 : Nat) (a3 : Option Addr) (c3 : Nat) (a4 : Option Addr) (c4 : Nat) (a5 : Option Addr) (c5 : Nat) (a6 : Option Addr) (c6 : Nat) (as_ : Option Addr) (cs m n : Nat) (bb : Nat) (p : Pd) (ap : Option Addr) (cp kp kb : Nat) (x : Sy) (hx : x.ok) (w : World) (hbk : Book d a2 c2 a3 c3 a4 c4 a5 c5 a6 c6 as_ cs m n bb w) (hkp : Blk w kp #[.bool p.lex, .string p.sort, .string p.cons, .bool p.bracket, .slice ap p.syms.length cp] 38) (hkb : Blk w kb #[.pointer (some ⟨bb, 0, none⟩)] 70) :
    Calls Try.prog 71 #[.agg #[.int .i64 x.kind, .string x.text, .int .u64 (x.set.w0 : Int), .int .u64 (x.set.w1 : Int), .int .u64 (x.set.w2 : Int), .int .u64 (x.set.w3 : Int), .string x.name, .string x.sep], .pointer (some ⟨kp, 0, none⟩), .pointer (some ⟨kb, 0, none⟩)] w fun e w' => e = .returned (.bool (kindS d p.lex x)) ∧ Below w.heap.size w w' := by
  have HB := hide ((Below.refl w.heap.size w).alloc (Nat.le_refl _) (.cells #[.int .i64 x.kind, .string x.text, .int .u64 (x.set.w0 : Int), .int .u64 (x.set.w1 : Int), .int .u64 (x.set.w2 : Int), .int .u64 (x.set.w3 : Int), .string x.name, .string x.sep] 61))
  obtain ⟨kd, t, st, nm, sp⟩ := x
  have hsn : short nm := hx.n
  have HBK := hide (hbk.below HB.out)
  obtain ⟨lx, so, cn, br, sy⟩ := p
  have kp0 : w.cell? ⟨kp, 0, none⟩ = some (.bool lx) := hkp.cell 0
  have kpl := hkp.lt
  have kb0 := hkb.cell 0
  have kbl := hkb.lt
  have bk1 := hbk.bk.cell 1
  have bkl := hbk.bk.lt
  obtain ⟨res, hres⟩ : ∃ r, kindS d (⟨lx, so, cn, br, sy⟩ : Pd).lex ⟨kd, t, st, nm, sp⟩ = r := ⟨_, rfl⟩
  rw [hres]
  have HS := hide (show kindS d lx ⟨kd, t, st, nm, sp⟩ = res from hres)
  clear hx hbk hkp hkb hres
  cases lx
  · by_cases h1 : kd = 1
    · subst h1
      have HF := hide (show res = false by rw [← HS.out]; unfold kindS; simp)
      clear HS
      go_enter Try.func71, Try.ntmps71
      go_upto_region 3 with fail
      go_quiet (fail)
      go_wp2_with fail
      go_ret
      exact ⟨by rw [HF.out]; rfl, HB.out.trans ⟨rfl, rfl, rfl, Nat.le_refl _, fun _ _ => rfl⟩⟩
    · have n1 : (kd == 1) = false := by simpa using h1
      have n2 : (!kd == 1) = true := by rw [n1]; rfl
      have n3 : (kd != 1) = true := by simpa using h1
      have n4 : decide (kd = 1) = false := by simpa using h1
      rcases emp_or nm with ⟨bn, zn, y1, y2, y3⟩ | ⟨bn, zn, y1, y2, y3⟩
      · have HF := hide (show res = true by rw [← HS.out]; unfold kindS; simp [h1, zn.out])
        clear HS
        go_enter Try.func71, Try.ntmps71
        go_upto_region 3 with fail
        go_quiet (fail)
        go_wp2_with fail
        go_ret
        exact ⟨by rw [HF.out]; rfl, HB.out.trans ⟨rfl, rfl, rfl, Nat.le_refl _, fun _ _ => rfl⟩⟩
      · obtain ⟨q, hq⟩ : ∃ q, decide (nm = d.layout) = q := ⟨_, rfl⟩
        have HF := hide (show res = q by rw [← HS.out]; unfold kindS; simp [h1, zn.out, ← hq])
        have hqq : (nm.toList == d.layout.toList) = q := by rw [← hq, Bool.eq_iff_iff]; simp [toList_eq_iff]
        clear HS hq
        go_enter Try.func71, Try.ntmps71
        go_upto_region 3 with fail
        go_quiet (fail)
        go_wp2_with fail
        go_ret
        exact ⟨by rw [HF.out, ← hqq]; simp, HB.out.trans ⟨rfl, rfl, rfl, Nat.le_refl _, fun _ _ => rfl⟩⟩
  · rcases emp_or sp with ⟨bs, zs, u1, u2, u3⟩ | ⟨bs, zs, u1, u2, u3⟩
    · rcases emp_or nm with ⟨bn, zn, y1, y2, y3⟩ | ⟨bn, zn, y1, y2, y3⟩
      · have HF := hide (show res = false by rw [← HS.out]; unfold kindS; simp [zs.out, zn.out])
        clear HS
        go_enter Try.func71, Try.ntmps71
        go_wp2_with fail
        go_ret
        exact ⟨by rw [HF.out]; rfl, HB.out⟩
      · have HF := hide (show res = !isLex d.prods nm true by rw [← HS.out]; unfold kindS; simp [zs.out, zn.out])
        have HL := hide (lexical_any d a2 c2 a3 c3 a4 c4 a5 c5 a6 c6 as_ cs m n bb nm _ HBK.out hsn)
        clear HS
        go_enter Try.func71, Try.ntmps71
        go_wp2_with (go_at_call 63; refine HL.out.mono ?_; rintro e w' ⟨rfl, rfl⟩)
        go_ret
        exact ⟨by rw [HF.out]; rfl, HB.out⟩
    · have HF := hide (show res = true by rw [← HS.out]; unfold kindS; simp [zs.out])
      clear HS
      go_enter Try.func71, Try.ntmps71
      go_wp2_with fail
      go_ret
      exact ⟨by rw [HF.out]; rfl, HB.out⟩
set_option maxHeartbeats 4000000 in
set_option maxRecDepth 100000 in
theorem kind_any (d : Df) (a2 : Option Addr) (c2 : Nat) (a3 : Option Addr) (c3 : Nat) (a4 : Option Addr) (c4 : Nat) (a5 : Option Addr) (c5 : Nat) (a6 : Option Addr) (c6 : Nat) (as_ : Option Addr) (cs m n : Nat) (bb : Nat) (p : Pd) (ap : Option Addr) (cp : Nat) (w : World) (hbk : Book d a2 c2 a3 c3 a4 c4 a5 c5 a6 c6 as_ cs m n bb w) (hr : Row SyAt 8 p.syms ap w) :
    Calls Try.prog 40 #[.pointer (some ⟨bb, 0, none⟩), .agg #[.bool p.lex, .string p.sort, .string p.cons, .bool p.bracket, .slice ap p.syms.length cp]] w fun e w' => e = .returned (.bool (kindB d p)) ∧ Below w.heap.size w w' := by
  have HB := hide (NB.alloc (NB.alloc (Below.refl w.heap.size w) (.cells #[.pointer (some ⟨bb, 0, none⟩)] 70)) (.cells #[.bool p.lex, .string p.sort, .string p.cons, .bool p.bracket, .slice ap p.syms.length cp] 38))
  have HK1 := hide (show Blk ((w.alloc (.cells #[.pointer (some ⟨bb, 0, none⟩)] 70)).alloc (.cells #[.bool p.lex, .string p.sort, .string p.cons, .bool p.bracket, .slice ap p.syms.length cp] 38)) w.heap.size #[.pointer (some ⟨bb, 0, none⟩)] 70 from (Blk.new w _ _).alloc _)
  have HK2 := hide (show Blk ((w.alloc (.cells #[.pointer (some ⟨bb, 0, none⟩)] 70)).alloc (.cells #[.bool p.lex, .string p.sort, .string p.cons, .bool p.bracket, .slice ap p.syms.length cp] 38)) (w.heap.size + 1) #[.bool p.lex, .string p.sort, .string p.cons, .bool p.bracket, .slice ap p.syms.length cp] 38 from NB.new1)
  have HC := hide (conSym 71 #[.pointer (some ⟨w.heap.size + 1, 0, none⟩), .pointer (some ⟨w.heap.size, 0, none⟩)] (by intro args w; exact enters_of Try.func71 (by kernel_rfl) rfl args w) (kindS d p.lex) p.syms ap cp _ (hr.below SyAt.stable HB.out) (fun W x b o _ hW _ hat => (kind1_any d a2 c2 a3 c3 a4 c4 a5 c5 a6 c6 as_ cs m n bb p ap cp (w.heap.size + 1) w.heap.size x hat.1 W (hbk.below (below_next HB.out hW)) (HK2.out.below hW) (HK1.out.below hW)).mono (fun e w' h => ⟨h.1, below_next hW h.2⟩)))
  clear hbk hr
  go_enter Try.func40, Try.ntmps40
  go_wp2_with (go_at_call 70; refine HC.out.mono ?_; rintro e w' ⟨rfl, hb⟩)
  go_ret
  exact ⟨rfl, below_next HB.out hb⟩
def nullS (s : Sy) : Bool := decide (s.kind = 1) && emp s.text
def nullB (p : Pd) : Bool := p.syms.any nullS || p.syms.all leftB
set_option maxHeartbeats 4000000 in
set_option maxRecDepth 100000 in
theorem null_any (bb : Nat) (p : Pd) (ap : Option Addr) (cp : Nat) (w : World) (hr : Row SyAt 8 p.syms ap w) :
    Calls Try.prog 44 #[.pointer (some ⟨bb, 0, none⟩), .agg #[.bool p.lex, .string p.sort, .string p.cons, .bool p.bracket, .slice ap p.syms.length cp]] w fun e w' => e = .returned (.bool (nullB p)) ∧ Below w.heap.size w w' := by
  have HB0 := hide ((Below.refl w.heap.size w).alloc (Nat.le_refl _) (.cells #[.bool p.lex, .string p.sort, .string p.cons, .bool p.bracket, .slice ap p.syms.length cp] 38))
  have HR := hide (hr.below SyAt.stable HB0.out)
  have hln := hr.1
  obtain ⟨res, hres⟩ : ∃ r, nullB p = r := ⟨_, rfl⟩
  rw [hres]
  have HRES := hide hres
  clear hr hres
  go_enter Try.func44, Try.ntmps44
  go_wp2_with fail
  generalize w.alloc (.cells #[.bool p.lex, .string p.sort, .string p.cons, .bool p.bracket, .slice ap p.syms.length cp] 38) = w1 at HR HB0 ⊢
  go_loopg [5, 11] p.syms.length (fun u v5 v11 wr => ∃ k : Nat, Hid (u = p.syms.length - k) ∧ v11 = .int .i64 (k : Int) ∧ v5 = .bool ((p.syms.take k).all leftB) ∧ Hid (k ≤ p.syms.length ∧ Below w1.heap.size w1 wr ∧ ∀ j (h : j < p.syms.length), j < k → nullS p.syms[j] = false))
  case atStart => exact ⟨0, hide rfl, rfl, rfl, hide ⟨Nat.zero_le _, Below.refl _ _, fun j _ h => by omega⟩⟩
  case round =>
    obtain ⟨k, hu, rfl, rfl, hh⟩ := hrel
    have hkl := hh.out.1
    by_cases hlt : k < p.syms.length
    · have hlti : (k : Int) < (p.syms.length : Int) := by omega
      obtain ⟨b, o, rfl, hb, hat⟩ := (HR.out.below SyAt.stable hh.out.2.1).get hlt
      have hx := hat k hlt
      have hts := take_snoc p.syms k hlt
      have HNX := hide (fun (h : nullS p.syms[k] = false) => none_next (f := nullS) (l := p.syms) (k := k) hh.out.2.2 (fun _ => rfl) h)
      have HHI := hide (fun (h : nullS p.syms[k] = true) => (show nullB p = true by unfold nullB; rw [Bool.or_eq_true]; left; exact List.any_eq_true.2 ⟨_, List.getElem_mem hlt, h⟩))
      have HAL := hide (fun (bx : Bool) (h : leftB p.syms[k] = bx) => (show (p.syms.take (k + 1)).all leftB = ((p.syms.take k).all leftB && bx) by rw [hts, List.all_append]; simp [h]))
      generalize p.syms[k] = x at hx HNX HHI HAL
      clear hat hts
      obtain ⟨kd, t, st, nm, sp⟩ := x
      obtain ⟨e0, e1, e2, e3, e4, e5, e6, e7⟩ := hx.cells
      have HL := hide (fun W => left_any ⟨kd, t, st, nm, sp⟩ W)
      have HBX := hide ((Below.refl wr.heap.size wr).alloc (Nat.le_refl _) (.cells #[.int .i64 kd, .string t, .int .u64 (st.w0 : Int), .int .u64 (st.w1 : Int), .int .u64 (st.w2 : Int), .int .u64 (st.w3 : Int), .string nm, .string sp] 61))
      obtain ⟨al, hal⟩ : ∃ a, (p.syms.take k).all leftB = a := ⟨_, rfl⟩
      rw [hal] at HAL
      have HAK := hide hal
      rw [hal]
      clear hx hal
      have two : nullS ⟨kd, t, st, nm, sp⟩ = false ∨ (kd = 1 ∧ emp t = true) := by
        unfold nullS
        by_cases h : kd = 1
        · cases he : emp t
          · left; simp
          · exact Or.inr ⟨h, rfl⟩
        · left; simp [h]
      have HTWO := hide two
      clear two
      by_cases hnul : kd = 1 ∧ emp t = true
      · obtain ⟨rfl, het⟩ := hnul
        have HF := hide (HHI.out (by unfold nullS; rw [het]; rfl))
        rcases emp_or t with ⟨bt, zt, y1, y2, y3⟩ | ⟨bt, zt, y1, y2, y3⟩
        · go_wp2_with fail
          go_ret
          exact ⟨by rw [← HRES.out, HF.out]; rfl, below_next HB0.out (below_next hh.out.2.1 HBX.out)⟩
        · rw [het] at zt; exact absurd zt.out (by decide)
      · have HN := hide (HNX.out ((HTWO.out).elim id (fun h => absurd h hnul)))
        have hcase : (kd = 1 ∧ emp t = false) ∨ ¬ kd = 1 := by
          by_cases h : kd = 1
          · left
            refine ⟨h, ?_⟩
            cases he : emp t
            · rfl
            · exact absurd ⟨h, he⟩ hnul
          · exact Or.inr h
        clear HTWO hnul HHI HNX
        have fin : ∀ (bx : Bool) wx, leftB ⟨kd, t, st, nm, sp⟩ = bx → Below wr.heap.size wr wx → Hid (((p.syms.take (k + 1)).all leftB = (al && bx)) ∧ Below w1.heap.size w1 wx) := fun bx wx h hb => hide ⟨HAL.out bx h, below_next hh.out.2.1 hb⟩
        have HFIN := hide fin
        clear fin
        rcases hcase with ⟨rfl, het⟩ | h1
        · rcases emp_or t with ⟨bt, zt, y1, y2, y3⟩ | ⟨bt, zt, y1, y2, y3⟩
          · rw [het] at zt; exact absurd zt.out (by decide)
          · clear het
            cases al
            · go_wp2_with fail
              go_roundg (p.syms.length - (k + 1))
              case measure => rw [hu.out]; omega
              case rel =>
                have hz := (HFIN.out _ _ rfl HBX.out).out
                exact ⟨k + 1, hide rfl, by go_num, by rw [hz.1]; rfl, hide ⟨hlt, hz.2, HN.out⟩⟩
            · go_wp2_with (go_at_call 72; refine (HL.out _).mono ?_; rintro e w' ⟨rfl, hb'⟩)
              go_roundg (p.syms.length - (k + 1))
              case measure => rw [hu.out]; omega
              case rel =>
                have hz := (HFIN.out _ _ rfl (below_next HBX.out hb')).out
                exact ⟨k + 1, hide rfl, by go_num, by rw [hz.1]; rfl, hide ⟨hlt, hz.2, HN.out⟩⟩
        · have n1 : (kd == 1) = false := by simpa using h1
          clear h1
          cases al
          · go_wp2_with fail
            go_roundg (p.syms.length - (k + 1))
            case measure => rw [hu.out]; omega
            case rel =>
              have hz := (HFIN.out _ _ rfl HBX.out).out
              exact ⟨k + 1, hide rfl, by go_num, by rw [hz.1]; rfl, hide ⟨hlt, hz.2, HN.out⟩⟩
          · go_wp2_with (go_at_call 72; refine (HL.out _).mono ?_; rintro e w' ⟨rfl, hb'⟩)
            go_roundg (p.syms.length - (k + 1))
            case measure => rw [hu.out]; omega
            case rel =>
              have hz := (HFIN.out _ _ rfl (below_next HBX.out hb')).out
              exact ⟨k + 1, hide rfl, by go_num, by rw [hz.1]; rfl, hide ⟨hlt, hz.2, HN.out⟩⟩
    · have hlti : ¬ (k : Int) < (p.syms.length : Int) := by omega
      have hke : p.syms.take k = p.syms := List.take_of_length_le (by omega)
      have HNO := hide (show p.syms.any nullS = false by
        rw [List.any_eq_false]
        intro x hx
        obtain ⟨i, hi, rfl⟩ := List.mem_iff_getElem.1 hx
        rw [hh.out.2.2 i hi (by omega)]
        decide)
      rw [hke]
      go_wp2_with fail
      go_ret
      refine ⟨?_, below_next HB0.out hh.out.2.1⟩
      rw [← HRES.out]
      unfold nullB
      rw [HNO.out]
      rfl
end Go.Proofs.Ytalicfpcmcbdbaa

set_option linter.unusedVariables false
set_option linter.unusedSimpArgs false
set_option linter.unnecessarySimpa false
set_option linter.deprecated false
namespace Go.Proofs.Ytalicfpcmcbdbaa
open Go.RowKit

theorem holesOf_lt : ∀ (l : List Sy) (k h : Nat), h ∈ holesOf l k → k ≤ h ∧ h < k + l.length
  | [], k, h, hm => by simp [holesOf] at hm
  | x :: l, k, h, hm => by
    have ih := holesOf_lt l (k + 1) h
    rw [holesOf] at hm
    rw [List.length_cons]
    split at hm
    · have := ih hm; omega
    · rcases List.mem_cons.1 hm with rfl | hm
      · omega
      · have := ih hm; omega
/-- Is a bracket's production no bracket: one hole, neither first nor last, of the production's own sort. -/
def brackOf (so : ByteArray) (sy : List Sy) : List Nat → Bool
  | [h] => decide (h = 0) || decide (h + 1 = sy.length) || (match sy[h]? with | some s => !decide (s.kind = 3) || !decide (s.name = so) | none => true)
  | _ => true
def bracketB (p : Pd) : Bool := p.bracket && brackOf p.sort p.syms (holesOf p.syms 0)
set_option maxHeartbeats 4000000 in
set_option maxRecDepth 100000 in
theorem bracket_any (bb : Nat) (p : Pd) (ap : Option Addr) (cp : Nat) (w : World) (hr : Row SyAt 8 p.syms ap w) (hln : p.syms.length ≤ 100000) :
    Calls Try.prog 42 #[.pointer (some ⟨bb, 0, none⟩), .agg #[.bool p.lex, .string p.sort, .string p.cons, .bool p.bracket, .slice ap p.syms.length cp]] w fun e w' => e = .returned (.bool (bracketB p)) ∧ Below w.heap.size w w' := by
  have HB0 := hide ((Below.refl w.heap.size w).alloc (Nat.le_refl _) (.cells #[.bool p.lex, .string p.sort, .string p.cons, .bool p.bracket, .slice ap p.syms.length cp] 38))
  have HBL := hide (Blk.new w #[.bool p.lex, .string p.sort, .string p.cons, .bool p.bracket, .slice ap p.syms.length cp] 38)
  have HR := hide (hr.below SyAt.stable HB0.out)
  have HC := hide (Holes_at p ap cp (w.alloc (.cells #[.bool p.lex, .string p.sort, .string p.cons, .bool p.bracket, .slice ap p.syms.length cp] 38)) HR.out hln)
  obtain ⟨res, hres⟩ : ∃ r, bracketB p = r := ⟨_, rfl⟩
  rw [hres]
  have HRES := hide hres
  have HML := hide (fun h => holesOf_lt p.syms 0 h)
  obtain ⟨lx, so, cn, br, sy⟩ := p
  clear hr hres
  cases br
  · have HF := hide (show res = false by rw [← HRES.out]; rfl)
    go_enter Try.func42, Try.ntmps42
    go_wp2_with fail
    go_ret
    exact ⟨by rw [HF.out]; rfl, HB0.out⟩
  · have HF := hide (show res = brackOf so sy (holesOf sy 0) by rw [← HRES.out]; rfl)
    clear HRES
    go_enter Try.func42, Try.ntmps42
    go_wp2_with fail
    refine HC.out.mono ?_
    rintro e w5 ⟨v, rfl, ho, hb⟩
    have HB5 := hide (below_next HB0.out hb)
    have h5 := HBL.out.below hb
    have x1 := h5.cell 1
    have x4 := h5.cell 4
    have xl := h5.lt
    have HR5 := hide (HR.out.below SyAt.stable hb)
    have HLN := hide hln
    obtain ⟨a, c, rfl, hc⟩ := own_shape ho
    obtain ⟨hl, hhl⟩ : ∃ hl, holesOf sy 0 = hl := ⟨_, rfl⟩
    rw [hhl] at hc HF
    have hml : ∀ h, h ∈ hl → h < sy.length := fun h hm => by have := HML.out h (by show h ∈ holesOf sy 0; rw [hhl]; exact hm); simpa using this.2
    rw [hhl]
    clear ho hhl hb h5 hln
    match hl, hc, HF, hml with
    | [], hc, HF, hml =>
      clear hc hml
      go_upto_region 4 with fail
      go_quiet (fail)
      go_wp2_with fail
      go_ret
      exact ⟨by rw [HF.out]; rfl, HB5.out.trans ⟨rfl, rfl, rfl, Nat.le_refl _, fun _ _ => rfl⟩⟩
    | x :: y :: r, hc, HF, hml =>
      have hn1 : ((((x :: y :: r).length : Nat) : Int) != 1) = true := by simp only [List.length_cons]; simp only [bne_iff_ne]; omega
      have hn2 : ((((x :: y :: r).length : Nat) : Int) == 1) = false := by simp only [List.length_cons]; rw [beq_eq_false_iff_ne]; omega
      have hn3 : ¬ (((x :: y :: r).length : Nat) : Int) = 1 := by simp only [List.length_cons]; omega
      obtain ⟨q, hq⟩ : ∃ q, (x :: y :: r).length = q := ⟨_, rfl⟩
      have HF2 := hide (show res = true by rw [HF.out]; rfl)
      rw [hq] at hn1 hn2 hn3 ⊢
      clear hc hml hq HF
      go_upto_region 4 with fail
      go_quiet (fail)
      go_wp2_with fail
      go_ret
      exact ⟨by rw [HF2.out]; rfl, HB5.out.trans ⟨rfl, rfl, rfl, Nat.le_refl _, fun _ _ => rfl⟩⟩
    | [x], hc, HF, hml =>
      obtain ⟨g, rfl, hgB, hg, hcell⟩ := hc (by simp)
      have c0 := hcell 0 _ rfl
      have hxl := hml x (by simp)
      clear hcell hml hgB
      have hsyl := HLN.out
      obtain ⟨bs, os, rfl, hbs, hat⟩ := HR5.out.get hxl
      have hx := hat x hxl
      have hgx : sy[x]? = some sy[x] := List.getElem?_eq_getElem hxl
      have HF2 := hide (show res = (decide (x = 0) || decide (x + 1 = sy.length) || (!decide (sy[x].kind = 3) || !decide (sy[x].name = so))) by rw [HF.out]; simp only [brackOf, hgx])
      generalize sy[x] = s at hx HF2
      clear hgx hat HF
      by_cases h0 : x = 0
      · subst h0
        have HF3 := hide (show res = true by rw [HF2.out]; rfl)
        clear hx HF2
        go_upto_region 4 with fail
        go_quiet (fail)
        go_wp2_with fail
        go_ret
        exact ⟨by rw [HF3.out]; rfl, HB5.out.trans ⟨rfl, rfl, rfl, Nat.le_refl _, fun _ _ => rfl⟩⟩
      · have n0 : ((x : Int) == 0) = false := by rw [beq_eq_false_iff_ne]; omega
        have n00 : ¬ (x : Int) = 0 := by omega
        by_cases h1 : x + 1 = sy.length
        · have HF3 := hide (show res = true by rw [HF2.out, decide_eq_true h1]; simp)
          have m1 : (x : Int) = (sy.length : Int) - 1 := by omega
          have m2 : ((x : Int) == (sy.length : Int) - 1) = true := by rw [m1]; exact beq_self_eq_true _
          clear hx HF2 m1 h0
          go_upto_region 4 with fail
          go_quiet (fail)
          go_wp2_with fail
          go_ret
          exact ⟨by rw [HF3.out]; rfl, HB5.out.trans ⟨rfl, rfl, rfl, Nat.le_refl _, fun _ _ => rfl⟩⟩
        · have m1 : ¬ (x : Int) = (sy.length : Int) - 1 := by omega
          have m2 : ((x : Int) == (sy.length : Int) - 1) = false := by rw [beq_eq_false_iff_ne]; omega
          obtain ⟨kd, t, st, nm, sp⟩ := s
          obtain ⟨e0, e1, e2, e3, e4, e5, e6, e7⟩ := hx.cells
          have HBX := hide (HB5.out.alloc HB5.out.size (.cells #[.int .i64 kd, .string t, .int .u64 (st.w0 : Int), .int .u64 (st.w1 : Int), .int .u64 (st.w2 : Int), .int .u64 (st.w3 : Int), .string nm, .string sp] 61))
          have HF3 := hide (show res = (!decide (kd = 3) || !decide (nm = so)) by rw [HF2.out, decide_eq_false h0, decide_eq_false h1]; rfl)
          clear hx HF2 h0 h1
          by_cases h3 : kd = 3
          · subst h3
            have hcm : (nm.toList == so.toList) = decide (nm = so) := by rw [Bool.eq_iff_iff]; simp [toList_eq_iff]
            go_upto_region 4 with fail
            go_quiet (fail)
            go_upto_region 6 with fail
            obtain ⟨w6, h6⟩ : ∃ w6, w5.drewN nq = w6 := ⟨_, rfl⟩
            have HB6 := hide (show Below w.heap.size w w6.drew by rw [← h6]; exact HB5.out.trans ⟨rfl, rfl, rfl, Nat.le_refl _, fun _ _ => rfl⟩)
            replace x1 : w6.cell? ⟨w.heap.size, 1, none⟩ = some (.string so) := by rw [← h6]; exact x1
            replace x4 : w6.cell? ⟨w.heap.size, 4, none⟩ = some (.slice (some ⟨bs, os, none⟩) sy.length cp) := by rw [← h6]; exact x4
            replace c0 : w6.cell? ⟨g, 0, none⟩ = some (.int .i64 (x : Int)) := by rw [← h6]; exact c0
            replace xl : w.heap.size < w6.heap.size := by rw [← h6]; exact xl
            replace hg : g < w6.heap.size := by rw [← h6]; exact hg
            replace hbs : bs < w6.heap.size := by rw [← h6]; exact hbs
            replace e0 : w6.cell? ⟨bs, os + x * 8, none⟩ = some (.int .i64 3) := by rw [← h6]; exact e0
            replace e1 : w6.cell? ⟨bs, os + x * 8 + 1, none⟩ = some (.string t) := by rw [← h6]; exact e1
            replace e2 : w6.cell? ⟨bs, os + x * 8 + 2, none⟩ = some (.int .u64 (st.w0 : Int)) := by rw [← h6]; exact e2
            replace e3 : w6.cell? ⟨bs, os + x * 8 + 3, none⟩ = some (.int .u64 (st.w1 : Int)) := by rw [← h6]; exact e3
            replace e4 : w6.cell? ⟨bs, os + x * 8 + 4, none⟩ = some (.int .u64 (st.w2 : Int)) := by rw [← h6]; exact e4
            replace e5 : w6.cell? ⟨bs, os + x * 8 + 5, none⟩ = some (.int .u64 (st.w3 : Int)) := by rw [← h6]; exact e5
            replace e6 : w6.cell? ⟨bs, os + x * 8 + 6, none⟩ = some (.string nm) := by rw [← h6]; exact e6
            replace e7 : w6.cell? ⟨bs, os + x * 8 + 7, none⟩ = some (.string sp) := by rw [← h6]; exact e7
            rw [h6]
            clear h6
            go_region
            go_wp2_with fail
            go_ret
            exact ⟨by rw [HF3.out, ← hcm]; simp, HB6.out.alloc HB6.out.size _⟩
          · have n1 : (kd == 3) = false := by simpa using h3
            have n2 : (kd != 3) = true := by simpa using h3
            have HF4 := hide (show res = true by rw [HF3.out, decide_eq_false h3]; rfl)
            clear HF3
            go_upto_region 4 with fail
            go_quiet (fail)
            go_upto_region 6 with fail
            obtain ⟨w6, h6⟩ : ∃ w6, w5.drewN nq = w6 := ⟨_, rfl⟩
            have HB6 := hide (show Below w.heap.size w w6.drew by rw [← h6]; exact HB5.out.trans ⟨rfl, rfl, rfl, Nat.le_refl _, fun _ _ => rfl⟩)
            replace x1 : w6.cell? ⟨w.heap.size, 1, none⟩ = some (.string so) := by rw [← h6]; exact x1
            replace x4 : w6.cell? ⟨w.heap.size, 4, none⟩ = some (.slice (some ⟨bs, os, none⟩) sy.length cp) := by rw [← h6]; exact x4
            replace c0 : w6.cell? ⟨g, 0, none⟩ = some (.int .i64 (x : Int)) := by rw [← h6]; exact c0
            replace xl : w.heap.size < w6.heap.size := by rw [← h6]; exact xl
            replace hg : g < w6.heap.size := by rw [← h6]; exact hg
            replace hbs : bs < w6.heap.size := by rw [← h6]; exact hbs
            replace e0 : w6.cell? ⟨bs, os + x * 8, none⟩ = some (.int .i64 kd) := by rw [← h6]; exact e0
            replace e1 : w6.cell? ⟨bs, os + x * 8 + 1, none⟩ = some (.string t) := by rw [← h6]; exact e1
            replace e2 : w6.cell? ⟨bs, os + x * 8 + 2, none⟩ = some (.int .u64 (st.w0 : Int)) := by rw [← h6]; exact e2
            replace e3 : w6.cell? ⟨bs, os + x * 8 + 3, none⟩ = some (.int .u64 (st.w1 : Int)) := by rw [← h6]; exact e3
            replace e4 : w6.cell? ⟨bs, os + x * 8 + 4, none⟩ = some (.int .u64 (st.w2 : Int)) := by rw [← h6]; exact e4
            replace e5 : w6.cell? ⟨bs, os + x * 8 + 5, none⟩ = some (.int .u64 (st.w3 : Int)) := by rw [← h6]; exact e5
            replace e6 : w6.cell? ⟨bs, os + x * 8 + 6, none⟩ = some (.string nm) := by rw [← h6]; exact e6
            replace e7 : w6.cell? ⟨bs, os + x * 8 + 7, none⟩ = some (.string sp) := by rw [← h6]; exact e7
            rw [h6]
            clear h6
            go_region
            go_wp2_with fail
            go_ret
            exact ⟨by rw [HF4.out]; rfl, HB6.out.alloc HB6.out.size _⟩
end Go.Proofs.Ytalicfpcmcbdbaa

set_option linter.unusedVariables false
set_option linter.unusedSimpArgs false
set_option linter.unnecessarySimpa false
set_option linter.deprecated false
namespace Go.Proofs.Ytalicfpcmcbdbaa
open Go.RowKit

/-- The first of a list at which p holds, by its place. -/
def firstI {α : Type} (c : Int) (p : Nat → α → Bool) (nm : α → ByteArray) : List α → Nat → Int × ByteArray
  | [], _ => okL
  | s :: r, k => if p k s = true then (c, nm s) else firstI c p nm r (k + 1)
theorem firstI_hit {α : Type} (c : Int) (p : Nat → α → Bool) (nm : α → ByteArray) : ∀ (l : List α) (s k : Nat) (hk : k < l.length), (∀ j (h : j < l.length), j < k → p (s + j) l[j] = false) → p (s + k) l[k] = true → firstI c p nm l s = (c, nm l[k])
  | [], s, k, hk, _, _ => absurd hk (by simp)
  | x :: xs, s, 0, hk, _, hp => by
    have hp : p s x = true := hp
    rw [firstI, if_pos hp]; rfl
  | x :: xs, s, k + 1, hk, hf, hp => by
    have h0 : p s x = false := hf 0 (by simp) (by omega)
    rw [firstI, if_neg (by rw [h0]; decide)]
    exact firstI_hit c p nm xs (s + 1) k (by simpa using hk) (fun j h hj => by have := hf (j + 1) (by simpa using h) (by omega); rw [show s + 1 + j = s + (j + 1) by omega]; simpa using this) (by rw [show s + 1 + k = s + (k + 1) by omega]; simpa using hp)
theorem firstI_miss {α : Type} (c : Int) (p : Nat → α → Bool) (nm : α → ByteArray) : ∀ (l : List α) (s : Nat), (∀ j (h : j < l.length), p (s + j) l[j] = false) → firstI c p nm l s = okL
  | [], s, _ => rfl
  | x :: xs, s, hf => by
    have h0 : p s x = false := hf 0 (by simp)
    rw [firstI, if_neg (by rw [h0]; decide)]
    exact firstI_miss c p nm xs (s + 1) (fun j h => by have := hf (j + 1) (by simpa using h); rw [show s + 1 + j = s + (j + 1) by omega]; simpa using this)
theorem none_nextI {α : Type} {f : Nat → α → Bool} {l : List α} {k : Nat} (h : ∀ j (h : j < l.length), j < k → f (0 + j) l[j] = false) {x : α} (hk : ∀ (hk : k < l.length), l[k] = x) (hx : f k x = false) : ∀ j (h : j < l.length), j < k + 1 → f (0 + j) l[j] = false := by
  intro j hj hjk
  by_cases e : j = k
  · subst e; rw [hk hj, Nat.zero_add]; exact hx
  · exact h j hj (by omega)
def consHit (d : Df) (k : Nat) (p : Pd) : Bool := !p.lex && decide (0 ≤ consIdx d.prods p.cons) && decide (consIdx d.prods p.cons < (k : Int))
def consLk (d : Df) : Int × ByteArray := firstI 45 (consHit d) Pd.cons d.prods 0
set_option maxHeartbeats 800000 in
set_option maxRecDepth 100000 in
theorem cons_any (d : Df) (a2 : Option Addr) (c2 : Nat) (a3 : Option Addr) (c3 : Nat) (a4 : Option Addr) (c4 : Nat) (a5 : Option Addr) (c5 : Nat) (a6 : Option Addr) (c6 : Nat) (as_ : Option Addr) (cs m n : Nat) (bb : Nat) (w : World) (hbk : Book d a2 c2 a3 c3 a4 c4 a5 c5 a6 c6 as_ cs m n bb w) : Calls Try.prog 41 #[.pointer (some ⟨bb, 0, none⟩)] w fun e w' => e = .returned (.tuple #[.int .i64 ((consLk d).1), .string ((consLk d).2)]) ∧ Below w.heap.size w w' := by
  have hln := hbk.rd.p.1
  have bk0 := hbk.bk.cell 0
  have bk1 := hbk.bk.cell 1
  have bk2 := hbk.bk.cell 2
  have bk3 := hbk.bk.cell 3
  have bk4 := hbk.bk.cell 4
  have bk5 := hbk.bk.cell 5
  have bk6 := hbk.bk.cell 6
  have bk7 := hbk.bk.cell 7
  have bk8 := hbk.bk.cell 8
  have bkl := hbk.bk.lt
  have HBK := hide hbk
  clear hbk
  obtain ⟨res, hres⟩ : ∃ r, consLk d = r := ⟨_, rfl⟩
  have HRES := hide hres
  rw [hres]
  clear hres
  go_enter Try.func41, Try.ntmps41
  go_wp2_with fail
  clear bk0 bk1 bk2 bk3 bk4 bk5 bk6 bk7 bk8 bkl
  go_loopg [13] d.prods.length (fun u v13 wr => ∃ k : Nat, Hid (u = d.prods.length - k) ∧ v13 = .int .i64 (k : Int) ∧ Hid (k ≤ d.prods.length ∧ Below w.heap.size w wr ∧ ∀ j (h : j < d.prods.length), j < k → consHit d (0 + j) d.prods[j] = false))
  case atStart => exact ⟨0, hide rfl, rfl, hide ⟨Nat.zero_le _, Below.refl _ _, fun j _ h => by omega⟩⟩
  case round =>
    obtain ⟨k, hu, rfl, hh⟩ := hrel
    have hkl := hh.out.1
    by_cases hlt : k < d.prods.length
    · have hlti : (k : Int) < (d.prods.length : Int) := by omega
      have hg2 : Row PdAt 5 d.prods a2 wr := (HBK.out.below hh.out.2.1).rd.p
      obtain ⟨b, o, rfl, hb, hat⟩ := hg2.get hlt
      have hx := hat k hlt
      have HNX := hide (fun (h : consHit d k d.prods[k] = false) => none_nextI (f := consHit d) (l := d.prods) (k := k) hh.out.2.2 (fun _ => rfl) h)
      have HHI := hide (fun (h : consHit d k d.prods[k] = true) => firstI_hit 45 (consHit d) Pd.cons d.prods 0 k hlt hh.out.2.2 (by rw [Nat.zero_add]; exact h))
      generalize d.prods[k] = x at hx HNX HHI
      clear hat
      obtain ⟨ap, cp, ⟨e0, e1, e2, e3, e4⟩, hrow⟩ := hx.cells
      obtain ⟨lx, so, cn, br, sy⟩ := x
      clear hx hrow
      go_upto_region 4 with fail
      obtain ⟨w6, h6⟩ : ∃ w6, wr.alloc (.cells #[.bool lx, .string so, .string cn, .bool br, .slice ap sy.length cp] 38) = w6 := ⟨_, rfl⟩
      obtain ⟨kx, hkx⟩ : ∃ kx, wr.heap.size = kx := ⟨_, rfl⟩
      have HB6 := hide (show Below w.heap.size w w6 by rw [← h6]; exact hh.out.2.1.alloc hh.out.2.1.size _)
      have HX6 := hide (show Blk w6 kx #[.bool lx, .string so, .string cn, .bool br, .slice ap sy.length cp] 38 by rw [← h6, ← hkx]; exact Blk.new wr _ _)
      have HBK6 := hide (HBK.out.below HB6.out)
      have HC := hide (Cons_at d _ c2 a3 c3 a4 c4 a5 c5 a6 c6 cn w6.drew (HBK6.out.rd.p.below PdAt.stable (Below.refl _ _).drew))
      rw [h6, hkx]
      clear h6 hkx e0 e1 e2 e3 e4
      have x0 := HX6.out.cell 0
      have x1 := HX6.out.cell 1
      have x2 := HX6.out.cell 2
      have x3 := HX6.out.cell 3
      have x4 := HX6.out.cell 4
      have xl := HX6.out.lt
      have bk0 := HBK6.out.bk.cell 0
      have bk1 := HBK6.out.bk.cell 1
      have bk2 := HBK6.out.bk.cell 2
      have bk3 := HBK6.out.bk.cell 3
      have bk4 := HBK6.out.bk.cell 4
      have bk5 := HBK6.out.bk.cell 5
      have bk6 := HBK6.out.bk.cell 6
      have bkl := HBK6.out.bk.lt
      obtain ⟨ci, hci⟩ : ∃ ci, consIdx d.prods cn = ci := ⟨_, rfl⟩
      rw [hci] at HC
      cases lx
      · by_cases h0 : 0 ≤ ci
        · have g0 : ci ≥ 0 := h0
          by_cases h1 : ci < (k : Int)
          · have HF := hide (HHI.out (show consHit d k ⟨false, so, cn, br, sy⟩ = true by unfold consHit; simp only [hci]; simp [h0, h1]))
            clear HNX HHI hci
            go_still_tail 6, (by kernel_rfl)
            change wpList _ _ _ _ _ w6.drew
            go_wp2_with (go_at_call 21; refine HC.out.mono ?_; rintro e w7 ⟨rfl, hb7⟩; have y0 := (HX6.out.below (below_next (Below.refl w6.heap.size w6).drew hb7)).cell 0; have y2 := (HX6.out.below (below_next (Below.refl w6.heap.size w6).drew hb7)).cell 2; have yl := (HX6.out.below (below_next (Below.refl w6.heap.size w6).drew hb7)).lt)
            go_quiet (fail)
            go_wp2_with fail
            go_ret2
            exact ⟨by rw [← HRES.out]; unfold consLk; rw [HF.out]; rfl, below_next HB6.out ((below_next (Below.refl w6.heap.size w6).drew hb7).trans ⟨rfl, rfl, rfl, Nat.le_refl _, fun _ _ => rfl⟩)⟩
          · have HN := hide (HNX.out (show consHit d k ⟨false, so, cn, br, sy⟩ = false by unfold consHit; simp only [hci]; simp [h1]))
            clear HNX HHI hci
            go_still_tail 6, (by kernel_rfl)
            change wpList _ _ _ _ _ w6.drew
            go_wp2_with (go_at_call 21; refine HC.out.mono ?_; rintro e w7 ⟨rfl, hb7⟩; have y0 := (HX6.out.below (below_next (Below.refl w6.heap.size w6).drew hb7)).cell 0; have y2 := (HX6.out.below (below_next (Below.refl w6.heap.size w6).drew hb7)).cell 2; have yl := (HX6.out.below (below_next (Below.refl w6.heap.size w6).drew hb7)).lt)
            go_roundg (d.prods.length - (k + 1))
            case measure => rw [hu.out]; omega
            case rel => exact ⟨k + 1, hide rfl, by go_num, hide ⟨hlt, below_next HB6.out (below_next (Below.refl w6.heap.size w6).drew hb7), HN.out⟩⟩
        · have g0 : ¬ ci ≥ 0 := h0
          have HN := hide (HNX.out (show consHit d k ⟨false, so, cn, br, sy⟩ = false by unfold consHit; simp only [hci]; simp [h0]))
          clear HNX HHI hci
          go_still_tail 6, (by kernel_rfl)
          change wpList _ _ _ _ _ w6.drew
          go_wp2_with (go_at_call 21; refine HC.out.mono ?_; rintro e w7 ⟨rfl, hb7⟩; have y0 := (HX6.out.below (below_next (Below.refl w6.heap.size w6).drew hb7)).cell 0; have y2 := (HX6.out.below (below_next (Below.refl w6.heap.size w6).drew hb7)).cell 2; have yl := (HX6.out.below (below_next (Below.refl w6.heap.size w6).drew hb7)).lt)
          go_roundg (d.prods.length - (k + 1))
          case measure => rw [hu.out]; omega
          case rel => exact ⟨k + 1, hide rfl, by go_num, hide ⟨hlt, below_next HB6.out (below_next (Below.refl w6.heap.size w6).drew hb7), HN.out⟩⟩
      · have HN := hide (HNX.out (show consHit d k ⟨true, so, cn, br, sy⟩ = false by unfold consHit; rfl))
        clear HNX HHI hci
        go_still_tail 6, (by kernel_rfl)
        change wpList _ _ _ _ _ w6.drew
        go_wp2_with (go_at_call 21; refine HC.out.mono ?_; rintro e w7 ⟨rfl, hb7⟩; have y0 := (HX6.out.below (below_next (Below.refl w6.heap.size w6).drew hb7)).cell 0; have y2 := (HX6.out.below (below_next (Below.refl w6.heap.size w6).drew hb7)).cell 2; have yl := (HX6.out.below (below_next (Below.refl w6.heap.size w6).drew hb7)).lt)
        go_roundg (d.prods.length - (k + 1))
        case measure => rw [hu.out]; omega
        case rel => exact ⟨k + 1, hide rfl, by go_num, hide ⟨hlt, below_next HB6.out (below_next (Below.refl w6.heap.size w6).drew hb7), HN.out⟩⟩
    · have hlti : ¬ (k : Int) < (d.prods.length : Int) := by omega
      have HF := hide (show consLk d = okL from firstI_miss 45 (consHit d) Pd.cons d.prods 0 (fun j h => hh.out.2.2 j h (by omega)))
      go_wp2_with fail
      go_ret2
      exact ⟨by rw [← HRES.out, HF.out]; rfl, hh.out.2.1⟩
end Go.Proofs.Ytalicfpcmcbdbaa

set_option linter.unusedVariables false
set_option linter.unusedSimpArgs false
set_option linter.unnecessarySimpa false
set_option linter.deprecated false
namespace Go.Proofs.Ytalicfpcmcbdbaa
open Go.RowKit

def leftN (l : List Sy) : Nat := (l.filter leftB).length
def widS (s : Sy) : Int := if s.kind = 1 then (s.text.size : Int) else 1
def widL : List Sy → Int
  | [] => 0
  | s :: r => widS s + widL r
theorem leftN_snoc (l : List Sy) (s : Sy) : leftN (l ++ [s]) = leftN l + (if leftB s = true then 1 else 0) := by
  unfold leftN
  rw [List.filter_append, List.length_append]
  cases h : leftB s <;> simp [h]
theorem widL_snoc : ∀ (l : List Sy) (s : Sy), widL (l ++ [s]) = widL l + widS s
  | [], s => by simp [widL]
  | x :: l, s => by rw [List.cons_append, widL, widL, widL_snoc l s]; omega
theorem leftN_le (l : List Sy) : leftN l ≤ l.length := List.length_filter_le _ _
/-- The width of a production's line. -/
def longW (d : Df) (p : Pd) : Int := if p.lex = true ∨ emp d.layout = true then widL p.syms else widL p.syms + ((p.syms.length : Int) - 1)
def longB (d : Df) (p : Pd) : Bool := decide (4 < leftN p.syms) || decide (80 < longW d p)
set_option maxHeartbeats 800000 in
set_option maxRecDepth 100000 in
theorem long_any (d : Df) (a2 : Option Addr) (c2 : Nat) (a3 : Option Addr) (c3 : Nat) (a4 : Option Addr) (c4 : Nat) (a5 : Option Addr) (c5 : Nat) (a6 : Option Addr) (c6 : Nat) (as_ : Option Addr) (cs m n : Nat) (bb : Nat) (p : Pd) (ap : Option Addr) (cp : Nat) (w : World) (hbk : Book d a2 c2 a3 c3 a4 c4 a5 c5 a6 c6 as_ cs m n bb w) (hr : Row SyAt 8 p.syms ap w) (hpl : p.syms.length ≤ 10000) :
    Calls Try.prog 43 #[.pointer (some ⟨bb, 0, none⟩), .agg #[.bool p.lex, .string p.sort, .string p.cons, .bool p.bracket, .slice ap p.syms.length cp]] w fun e w' => e = .returned (.bool (longB d p)) ∧ Below w.heap.size w w' := by
  have HB0 := hide ((Below.refl w.heap.size w).alloc (Nat.le_refl _) (.cells #[.bool p.lex, .string p.sort, .string p.cons, .bool p.bracket, .slice ap p.syms.length cp] 38))
  have HBL := hide (Blk.new w #[.bool p.lex, .string p.sort, .string p.cons, .bool p.bracket, .slice ap p.syms.length cp] 38)
  have HBK := hide (hbk.below HB0.out)
  have HR := hide (hr.below SyAt.stable HB0.out)
  obtain ⟨res, hres⟩ : ∃ r, longB d p = r := ⟨_, rfl⟩
  rw [hres]
  have HRES := hide hres
  obtain ⟨lx, so, cn, br, sy⟩ := p
  have hpl : sy.length ≤ 10000 := hpl
  clear hr hres hbk
  go_enter Try.func43, Try.ntmps43
  go_wp2_with fail
  obtain ⟨w1, hw1⟩ : ∃ w1, w.alloc (.cells #[.bool lx, .string so, .string cn, .bool br, .slice ap sy.length cp] 38) = w1 := ⟨_, rfl⟩
  obtain ⟨kx, hkx⟩ : ∃ kx, w.heap.size = kx := ⟨_, rfl⟩
  have HX1 := hide (show Blk w1 kx #[.bool lx, .string so, .string cn, .bool br, .slice ap sy.length cp] 38 by rw [← hw1, ← hkx]; exact HBL.out)
  replace HB0 := hide (show Below w.heap.size w w1 by rw [← hw1]; exact HB0.out)
  replace HBK := hide (show Book d a2 c2 a3 c3 a4 c4 a5 c5 a6 c6 as_ cs m n bb w1 by rw [← hw1]; exact HBK.out)
  replace HR := hide (show Row SyAt 8 sy ap w1 by rw [← hw1]; exact HR.out)
  rw [hw1, hkx]
  have HKX := hide hkx
  clear HBL hw1 hkx
  go_loopg [5, 6, 12] sy.length (fun u v5 v6 v12 wr => ∃ k : Nat, Hid (u = sy.length - k) ∧ v12 = .int .i64 (k : Int) ∧ v5 = .int .i64 (leftN (sy.take k) : Int) ∧ v6 = .int .i64 (widL (sy.take k)) ∧ Hid (k ≤ sy.length ∧ Below w1.heap.size w1 wr ∧ 0 ≤ widL (sy.take k) ∧ widL (sy.take k) ≤ (k : Int) * 140737488351232))
  case atStart => exact ⟨0, hide rfl, rfl, rfl, rfl, hide ⟨Nat.zero_le _, Below.refl _ _, by simp [widL], by simp [widL]⟩⟩
  case round =>
    obtain ⟨k, hu, rfl, rfl, rfl, hh⟩ := hrel
    have hkl := hh.out.1
    have hlc := leftN_le (sy.take k)
    rw [List.length_take] at hlc
    have hw0 := hh.out.2.2.1
    have hw1 := hh.out.2.2.2
    by_cases hlt : k < sy.length
    · have hlti : (k : Int) < (sy.length : Int) := by omega
      obtain ⟨b, o, rfl, hb, hat⟩ := (HR.out.below SyAt.stable hh.out.2.1).get hlt
      have hx := hat k hlt
      have HLN := hide (leftN_snoc (sy.take k) sy[k])
      have HWN := hide (widL_snoc (sy.take k) sy[k])
      rw [← take_snoc sy k hlt] at HLN HWN
      generalize sy[k] = x at hx HLN HWN
      clear hat
      obtain ⟨kd, t, st, nm, sp⟩ := x
      obtain ⟨e0, e1, e2, e3, e4, e5, e6, e7⟩ := hx.cells
      have htx : t.size ≤ 140737488351232 := hx.1.t
      have HL := hide (fun W => left_any ⟨kd, t, st, nm, sp⟩ W)
      have HXX := hide (Blk.new wr #[.int .i64 kd, .string t, .int .u64 (st.w0 : Int), .int .u64 (st.w1 : Int), .int .u64 (st.w2 : Int), .int .u64 (st.w3 : Int), .string nm, .string sp] 61)
      have HBX := hide (hh.out.2.1.alloc hh.out.2.1.size (.cells #[.int .i64 kd, .string t, .int .u64 (st.w0 : Int), .int .u64 (st.w1 : Int), .int .u64 (st.w2 : Int), .int .u64 (st.w3 : Int), .string nm, .string sp] 61))
      obtain ⟨wd, hwd⟩ : ∃ a, widL (sy.take k) = a := ⟨_, rfl⟩
      obtain ⟨lc, hcc⟩ : ∃ a, leftN (sy.take k) = a := ⟨_, rfl⟩
      rw [hwd] at HWN hw0 hw1 ⊢
      rw [hcc] at HLN hlc ⊢
      clear hx hwd hcc
      cases hl : leftB ⟨kd, t, st, nm, sp⟩
      · have HLN2 := hide (show leftN (sy.take (k + 1)) = lc + 0 by rw [HLN.out, hl]; rfl)
        clear HLN
        replace HLN := HLN2
        clear HLN2
        rw [hl] at HL
        clear hl
        by_cases h1 : kd = 1
        · subst h1
          replace HWN := hide (show widL (sy.take (k + 1)) = wd + (t.size : Int) from HWN.out)
          go_wp2_with (go_at_call 72; refine (HL.out _).mono ?_; rintro e w' ⟨rfl, hb'⟩; have x0 := (HXX.out.below hb').cell 0; have x1 := (HXX.out.below hb').cell 1; have xl := (HXX.out.below hb').lt; clear hb e0 e1 e2 e3 e4 e5 e6 e7)
          go_roundg (sy.length - (k + 1))
          case measure => rw [hu.out]; omega
          case rel => exact ⟨k + 1, hide rfl, by go_num, by rw [HLN.out]; go_num, by rw [HWN.out], hide ⟨hlt, below_next HBX.out hb', by rw [HWN.out]; omega, by rw [HWN.out]; push_cast; omega⟩⟩
        · have n1 : (kd == 1) = false := by simpa using h1
          replace HWN := hide (show widL (sy.take (k + 1)) = wd + 1 by rw [HWN.out]; unfold widS; rw [if_neg h1])
          clear h1
          go_wp2_with (go_at_call 72; refine (HL.out _).mono ?_; rintro e w' ⟨rfl, hb'⟩; have x0 := (HXX.out.below hb').cell 0; have x1 := (HXX.out.below hb').cell 1; have xl := (HXX.out.below hb').lt; clear hb e0 e1 e2 e3 e4 e5 e6 e7)
          go_roundg (sy.length - (k + 1))
          case measure => rw [hu.out]; omega
          case rel => exact ⟨k + 1, hide rfl, by go_num, by rw [HLN.out]; go_num, by rw [HWN.out], hide ⟨hlt, below_next HBX.out hb', by rw [HWN.out]; omega, by rw [HWN.out]; push_cast; omega⟩⟩
      · have HLN2 := hide (show leftN (sy.take (k + 1)) = lc + 1 by rw [HLN.out, hl]; rfl)
        clear HLN
        replace HLN := HLN2
        clear HLN2
        rw [hl] at HL
        clear hl
        by_cases h1 : kd = 1
        · subst h1
          replace HWN := hide (show widL (sy.take (k + 1)) = wd + (t.size : Int) from HWN.out)
          go_wp2_with (go_at_call 72; refine (HL.out _).mono ?_; rintro e w' ⟨rfl, hb'⟩; have x0 := (HXX.out.below hb').cell 0; have x1 := (HXX.out.below hb').cell 1; have xl := (HXX.out.below hb').lt; clear hb e0 e1 e2 e3 e4 e5 e6 e7)
          go_roundg (sy.length - (k + 1))
          case measure => rw [hu.out]; omega
          case rel => exact ⟨k + 1, hide rfl, by go_num, by rw [HLN.out]; go_num, by rw [HWN.out], hide ⟨hlt, below_next HBX.out hb', by rw [HWN.out]; omega, by rw [HWN.out]; push_cast; omega⟩⟩
        · have n1 : (kd == 1) = false := by simpa using h1
          replace HWN := hide (show widL (sy.take (k + 1)) = wd + 1 by rw [HWN.out]; unfold widS; rw [if_neg h1])
          clear h1
          go_wp2_with (go_at_call 72; refine (HL.out _).mono ?_; rintro e w' ⟨rfl, hb'⟩; have x0 := (HXX.out.below hb').cell 0; have x1 := (HXX.out.below hb').cell 1; have xl := (HXX.out.below hb').lt; clear hb e0 e1 e2 e3 e4 e5 e6 e7)
          go_roundg (sy.length - (k + 1))
          case measure => rw [hu.out]; omega
          case rel => exact ⟨k + 1, hide rfl, by go_num, by rw [HLN.out]; go_num, by rw [HWN.out], hide ⟨hlt, below_next HBX.out hb', by rw [HWN.out]; omega, by rw [HWN.out]; push_cast; omega⟩⟩
    · have hlti : ¬ (k : Int) < (sy.length : Int) := by omega
      have hke : sy.take k = sy := List.take_of_length_le (by omega)
      rw [hke] at hlc hw0 hw1 ⊢
      have HX := HX1.out.below hh.out.2.1
      have x0 := HX.cell 0
      have x4 := HX.cell 4
      have xl := HX.lt
      have bk1 := (HBK.out.below hh.out.2.1).bk.cell 1
      have bkl := (HBK.out.below hh.out.2.1).bk.lt
      have HBE := hide (below_next HB0.out hh.out.2.1)
      have HRS := hide (show res = (decide (4 < leftN sy) || decide (80 < longW d ⟨lx, so, cn, br, sy⟩)) from HRES.out.symm)
      have HLW := hide (show longW d ⟨lx, so, cn, br, sy⟩ = if lx = true ∨ emp d.layout = true then widL sy else widL sy + ((sy.length : Int) - 1) from rfl)
      generalize longW d ⟨lx, so, cn, br, sy⟩ = lw at HRS HLW
      generalize leftN sy = lc at hlc HRS ⊢
      generalize widL sy = wd at hw0 hw1 HLW ⊢
      clear HX hke
      cases lx
      · rcases emp_or d.layout with ⟨bn, zn, y1, y2, y3⟩ | ⟨bn, zn, y1, y2, y3⟩
        · have HLW2 := hide (show lw = wd by rw [HLW.out, if_pos (Or.inr zn.out)])
          clear HLW
          by_cases h4 : 4 < lc
          · have g4 : (lc : Int) > 4 := by omega
            have HF := hide (show res = true by rw [HRS.out, decide_eq_true h4]; rfl)
            clear h4
            go_wp2_with fail
            go_ret
            exact ⟨by rw [HF.out]; rfl, HBE.out⟩
          · have g4 : ¬ (lc : Int) > 4 := by omega
            by_cases h8 : 80 < lw
            · have HF := hide (show res = true by rw [HRS.out, decide_eq_true h8]; simp)
              have g8 : wd > 80 := by rw [HLW2.out] at h8; exact h8
              clear h4 h8
              go_wp2_with fail
              go_ret
              exact ⟨by rw [HF.out]; rfl, HBE.out⟩
            · have HF := hide (show res = false by rw [HRS.out, decide_eq_false h4, decide_eq_false h8]; rfl)
              have g8 : ¬ wd > 80 := by rw [HLW2.out] at h8; exact h8
              clear h4 h8
              go_wp2_with fail
              go_ret
              exact ⟨by rw [HF.out]; rfl, HBE.out⟩
        · have HLW2 := hide (show lw = wd + ((sy.length : Int) - 1) by rw [HLW.out, if_neg (by rw [zn.out]; simp)])
          clear HLW
          by_cases h4 : 4 < lc
          · have g4 : (lc : Int) > 4 := by omega
            have HF := hide (show res = true by rw [HRS.out, decide_eq_true h4]; rfl)
            clear h4
            go_wp2_with fail
            go_ret
            exact ⟨by rw [HF.out]; rfl, HBE.out⟩
          · have g4 : ¬ (lc : Int) > 4 := by omega
            by_cases h8 : 80 < lw
            · have HF := hide (show res = true by rw [HRS.out, decide_eq_true h8]; simp)
              have g8 : wd + ((sy.length : Int) - 1) > 80 := by rw [HLW2.out] at h8; exact h8
              clear h4 h8
              go_wp2_with fail
              go_ret
              exact ⟨by rw [HF.out]; rfl, HBE.out⟩
            · have HF := hide (show res = false by rw [HRS.out, decide_eq_false h4, decide_eq_false h8]; rfl)
              have g8 : ¬ wd + ((sy.length : Int) - 1) > 80 := by rw [HLW2.out] at h8; exact h8
              clear h4 h8
              go_wp2_with fail
              go_ret
              exact ⟨by rw [HF.out]; rfl, HBE.out⟩
      · have HLW2 := hide (show lw = wd by rw [HLW.out, if_pos (Or.inl rfl)])
        clear HLW
        by_cases h4 : 4 < lc
        · have g4 : (lc : Int) > 4 := by omega
          have HF := hide (show res = true by rw [HRS.out, decide_eq_true h4]; rfl)
          clear h4
          go_wp2_with fail
          go_ret
          exact ⟨by rw [HF.out]; rfl, HBE.out⟩
        · have g4 : ¬ (lc : Int) > 4 := by omega
          by_cases h8 : 80 < lw
          · have HF := hide (show res = true by rw [HRS.out, decide_eq_true h8]; simp)
            have g8 : wd > 80 := by rw [HLW2.out] at h8; exact h8
            clear h4 h8
            go_wp2_with fail
            go_ret
            exact ⟨by rw [HF.out]; rfl, HBE.out⟩
          · have HF := hide (show res = false by rw [HRS.out, decide_eq_false h4, decide_eq_false h8]; rfl)
            have g8 : ¬ wd > 80 := by rw [HLW2.out] at h8; exact h8
            clear h4 h8
            go_wp2_with fail
            go_ret
            exact ⟨by rw [HF.out]; rfl, HBE.out⟩
end Go.Proofs.Ytalicfpcmcbdbaa

set_option linter.unusedVariables false
set_option linter.unusedSimpArgs false
set_option linter.unnecessarySimpa false
set_option linter.deprecated false
namespace Go.Proofs.Ytalicfpcmcbdbaa
open Go.RowKit

/-- Start and layout are of their kinds. -/
def endsL (d : Df) : Int × ByteArray := if lexOf d.prods d.start = 2 then (if emp d.layout = true ∨ lexOf d.prods d.layout = 1 then okL else (41, d.layout)) else (40, d.start)
set_option maxHeartbeats 800000 in
set_option maxRecDepth 100000 in
theorem ends_any (d : Df) (a2 : Option Addr) (c2 : Nat) (a3 : Option Addr) (c3 : Nat) (a4 : Option Addr) (c4 : Nat) (a5 : Option Addr) (c5 : Nat) (a6 : Option Addr) (c6 : Nat) (as_ : Option Addr) (cs m n : Nat) (bb : Nat) (w : World) (hbk : Book d a2 c2 a3 c3 a4 c4 a5 c5 a6 c6 as_ cs m n bb w) : Calls Try.prog 37 #[.pointer (some ⟨bb, 0, none⟩)] w fun e w' => e = .returned (.tuple #[.int .i64 ((endsL d).1), .string ((endsL d).2)]) ∧ Below w.heap.size w w' := by
  have bk0 := hbk.bk.cell 0
  have bk1 := hbk.bk.cell 1
  have bk2 := hbk.bk.cell 2
  have bk3 := hbk.bk.cell 3
  have bk4 := hbk.bk.cell 4
  have bk5 := hbk.bk.cell 5
  have bk6 := hbk.bk.cell 6
  have bk7 := hbk.bk.cell 7
  have bk8 := hbk.bk.cell 8
  have bkl := hbk.bk.lt
  have HBK := hide hbk
  clear hbk
  obtain ⟨res, hres⟩ : ∃ r, endsL d = r := ⟨_, rfl⟩
  have HRES := hide hres
  rw [hres]
  clear hres
  obtain ⟨n0, hn0⟩ : ∃ n0, lexOf d.prods d.start = n0 := ⟨_, rfl⟩
  obtain ⟨n1, hn1⟩ : ∃ n1, lexOf d.prods d.layout = n1 := ⟨_, rfl⟩
  have hl0 : ∀ n, (Instr.lookup 85 (.map (some m)) (.string d.start) false).run Try.prog (w.drewN n) = .ok (.int .i64 n0) (w.drewN n) := fun n => by
    have := (show MapF (w.drewN n) m _ (lexOf d.prods) from HBK.out.mp).look d.start HBK.out.rd.s
    rw [hn0] at this; exact this
  have hl1 : ∀ n, (Instr.lookup 85 (.map (some m)) (.string d.layout) false).run Try.prog (w.drewN n) = .ok (.int .i64 n1) (w.drewN n) := fun n => by
    have := (show MapF (w.drewN n) m _ (lexOf d.prods) from HBK.out.mp).look d.layout HBK.out.rd.l
    rw [hn1] at this; exact this
  have hl2 : ∀ n k, (Instr.lookup 85 (.map (some m)) (.string d.layout) false).run Try.prog ((w.drewN n).drewN k) = .ok (.int .i64 n1) ((w.drewN n).drewN k) := fun n k => by
    have := (show MapF ((w.drewN n).drewN k) m _ (lexOf d.prods) from HBK.out.mp).look d.layout HBK.out.rd.l
    rw [hn1] at this; exact this
  by_cases h2 : n0 = 2
  · subst h2
    rcases emp_or d.layout with ⟨bn, zn, y1, y2, y3⟩ | ⟨bn, zn, y1, y2, y3⟩
    · have HF := hide (show res = okL by rw [← HRES.out]; unfold endsL; rw [if_pos hn0, if_pos (Or.inl zn.out)])
      clear hl1 hl2 hn0 hn1
      go_enter Try.func37, Try.ntmps37
      go_upto_region 1 with fail
      go_quiet (fail)
      go_upto_region 3 with fail
      go_quiet (fail)
      go_wp2_with fail
      go_ret2
      exact ⟨by rw [HF.out]; rfl, (Below.refl w.heap.size w).trans ⟨rfl, rfl, rfl, Nat.le_refl _, fun _ _ => rfl⟩⟩
    · by_cases h1 : n1 = 1
      · subst h1
        have HF := hide (show res = okL by rw [← HRES.out]; unfold endsL; rw [if_pos hn0, if_pos (Or.inr hn1)])
        clear hn0 hn1
        go_enter Try.func37, Try.ntmps37
        go_upto_region 1 with fail
        go_quiet (fail)
        go_upto_region 3 with fail
        go_quiet (fail)
        go_wp2_with fail
        go_ret2
        exact ⟨by rw [HF.out]; rfl, (Below.refl w.heap.size w).trans ⟨rfl, rfl, rfl, Nat.le_refl _, fun _ _ => rfl⟩⟩
      · have HF := hide (show res = (41, d.layout) by rw [← HRES.out]; unfold endsL; rw [if_pos hn0, if_neg (by rw [zn.out, hn1]; simp [h1])])
        have q1 : (n1 == 1) = false := by simpa using h1
        have q2 : (n1 != 1) = true := by simpa using h1
        clear hn0 hn1
        go_enter Try.func37, Try.ntmps37
        go_upto_region 1 with fail
        go_quiet (fail)
        go_upto_region 3 with fail
        go_quiet (fail)
        go_upto_region 4 with fail
        go_quiet (fail)
        go_wp2_with fail
        go_ret2
        exact ⟨by rw [HF.out]; rfl, (Below.refl w.heap.size w).trans ⟨rfl, rfl, rfl, Nat.le_refl _, fun _ _ => rfl⟩⟩
  · have HF := hide (show res = (40, d.start) by rw [← HRES.out]; unfold endsL; rw [if_neg (by rw [hn0]; exact h2)])
    have q1 : (n0 == 2) = false := by simpa using h2
    have q2 : (n0 != 2) = true := by simpa using h2
    clear hn0 hn1 hl1 hl2
    go_enter Try.func37, Try.ntmps37
    go_upto_region 1 with fail
    go_quiet (fail)
    go_upto_region 2 with fail
    go_quiet (fail)
    go_wp2_with fail
    go_ret2
    exact ⟨by rw [HF.out]; rfl, (Below.refl w.heap.size w).trans ⟨rfl, rfl, rfl, Nat.le_refl _, fun _ _ => rfl⟩⟩
end Go.Proofs.Ytalicfpcmcbdbaa
