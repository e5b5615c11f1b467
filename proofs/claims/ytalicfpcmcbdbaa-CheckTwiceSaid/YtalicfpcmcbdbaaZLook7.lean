/- The walk of long. The walk of ends. -/
import Derived.Test.YtalicfpcmcbdbaaZLook2
import Derived.Test.YtalicfpcmcbdbaaZLeft
import Derived.Test.YtalicfpcmcbdbaaZNames
import Derived.Test.YtalicfpcmcbdbaaZEqS
set_option linter.unusedVariables false
set_option linter.unusedSimpArgs false
set_option linter.unnecessarySimpa false
set_option linter.deprecated false
namespace Go.Proofs.Ytalicfpcmcbdbaa
open Go.RowKit

def leftN (l : List Sy) : Nat := (l.filter leftB).length
def widS (s : Sy) : Int := if s.kind = 1 then (s.text.size : Int) else 1
def widL : List Sy → Int
  | [] => 0
  | s :: r => widS s + widL r
theorem leftN_snoc (l : List Sy) (s : Sy) : leftN (l ++ [s]) = leftN l + (if leftB s = true then 1 else 0) := by
  unfold leftN
  rw [List.filter_append, List.length_append]
  cases h : leftB s <;> simp [h]
theorem widL_snoc : ∀ (l : List Sy) (s : Sy), widL (l ++ [s]) = widL l + widS s
  | [], s => by simp [widL]
  | x :: l, s => by rw [List.cons_append, widL, widL, widL_snoc l s]; omega
theorem leftN_le (l : List Sy) : leftN l ≤ l.length := List.length_filter_le _ _
/-- The width of a production's line. -/
def longW (d : Df) (p : Pd) : Int := if p.lex = true ∨ emp d.layout = true then widL p.syms else widL p.syms + ((p.syms.length : Int) - 1)
def longB (d : Df) (p : Pd) : Bool := decide (4 < leftN p.syms) || decide (80 < longW d p)
set_option maxHeartbeats 800000 in
set_option maxRecDepth 100000 in
theorem long_any (d : Df) (a2 : Option Addr) (c2 : Nat) (a3 : Option Addr) (c3 : Nat) (a4 : Option Addr) (c4 : Nat) (a5 : Option Addr) (c5 : Nat) (a6 : Option Addr) (c6 : Nat) (as_ : Option Addr) (cs m n : Nat) (bb : Nat) (p : Pd) (ap : Option Addr) (cp : Nat) (w : World) (hbk : Book d a2 c2 a3 c3 a4 c4 a5 c5 a6 c6 as_ cs m n bb w) (hr : Row SyAt 8 p.syms ap w) (hpl : p.syms.length ≤ 10000) :
    Calls Try.prog 43 #[.pointer (some ⟨bb, 0, none⟩), .agg #[.bool p.lex, .string p.sort, .string p.cons, .bool p.bracket, .slice ap p.syms.length cp]] w fun e w' => e = .returned (.bool (longB d p)) ∧ Below w.heap.size w w' := by
  have HB0 := hide ((Below.refl w.heap.size w).alloc (Nat.le_refl _) (.cells #[.bool p.lex, .string p.sort, .string p.cons, .bool p.bracket, .slice ap p.syms.length cp] 38))
  have HBL := hide (Blk.new w #[.bool p.lex, .string p.sort, .string p.cons, .bool p.bracket, .slice ap p.syms.length cp] 38)
  have HBK := hide (hbk.below HB0.out)
  have HR := hide (hr.below SyAt.stable HB0.out)
  obtain ⟨res, hres⟩ : ∃ r, longB d p = r := ⟨_, rfl⟩
  rw [hres]
  have HRES := hide hres
  obtain ⟨lx, so, cn, br, sy⟩ := p
  have hpl : sy.length ≤ 10000 := hpl
  clear hr hres hbk
  go_enter Try.func43, Try.ntmps43
  go_wp2_with fail
  obtain ⟨w1, hw1⟩ : ∃ w1, w.alloc (.cells #[.bool lx, .string so, .string cn, .bool br, .slice ap sy.length cp] 38) = w1 := ⟨_, rfl⟩
  obtain ⟨kx, hkx⟩ : ∃ kx, w.heap.size = kx := ⟨_, rfl⟩
  have HX1 := hide (show Blk w1 kx #[.bool lx, .string so, .string cn, .bool br, .slice ap sy.length cp] 38 by rw [← hw1, ← hkx]; exact HBL.out)
  replace HB0 := hide (show Below w.heap.size w w1 by rw [← hw1]; exact HB0.out)
  replace HBK := hide (show Book d a2 c2 a3 c3 a4 c4 a5 c5 a6 c6 as_ cs m n bb w1 by rw [← hw1]; exact HBK.out)
  replace HR := hide (show Row SyAt 8 sy ap w1 by rw [← hw1]; exact HR.out)
  rw [hw1, hkx]
  have HKX := hide hkx
  clear HBL hw1 hkx
  go_loopg [5, 6, 12] sy.length (fun u v5 v6 v12 wr => ∃ k : Nat, Hid (u = sy.length - k) ∧ v12 = .int .i64 (k : Int) ∧ v5 = .int .i64 (leftN (sy.take k) : Int) ∧ v6 = .int .i64 (widL (sy.take k)) ∧ Hid (k ≤ sy.length ∧ Below w1.heap.size w1 wr ∧ 0 ≤ widL (sy.take k) ∧ widL (sy.take k) ≤ (k : Int) * 140737488351232))
  case atStart => exact ⟨0, hide rfl, rfl, rfl, rfl, hide ⟨Nat.zero_le _, Below.refl _ _, by simp [widL], by simp [widL]⟩⟩
  case round =>
    obtain ⟨k, hu, rfl, rfl, rfl, hh⟩ := hrel
    have hkl := hh.out.1
    have hlc := leftN_le (sy.take k)
    rw [List.length_take] at hlc
    have hw0 := hh.out.2.2.1
    have hw1 := hh.out.2.2.2
    by_cases hlt : k < sy.length
    · have hlti : (k : Int) < (sy.length : Int) := by omega
      obtain ⟨b, o, rfl, hb, hat⟩ := (HR.out.below SyAt.stable hh.out.2.1).get hlt
      have hx := hat k hlt
      have HLN := hide (leftN_snoc (sy.take k) sy[k])
      have HWN := hide (widL_snoc (sy.take k) sy[k])
      rw [← take_snoc sy k hlt] at HLN HWN
      generalize sy[k] = x at hx HLN HWN
      clear hat
      obtain ⟨kd, t, st, nm, sp⟩ := x
      obtain ⟨e0, e1, e2, e3, e4, e5, e6, e7⟩ := hx.cells
      have htx : t.size ≤ 140737488351232 := hx.1.t
      have HL := hide (fun W => left_any ⟨kd, t, st, nm, sp⟩ W)
      have HXX := hide (Blk.new wr #[.int .i64 kd, .string t, .int .u64 (st.w0 : Int), .int .u64 (st.w1 : Int), .int .u64 (st.w2 : Int), .int .u64 (st.w3 : Int), .string nm, .string sp] 61)
      have HBX := hide (hh.out.2.1.alloc hh.out.2.1.size (.cells #[.int .i64 kd, .string t, .int .u64 (st.w0 : Int), .int .u64 (st.w1 : Int), .int .u64 (st.w2 : Int), .int .u64 (st.w3 : Int), .string nm, .string sp] 61))
      obtain ⟨wd, hwd⟩ : ∃ a, widL (sy.take k) = a := ⟨_, rfl⟩
      obtain ⟨lc, hcc⟩ : ∃ a, leftN (sy.take k) = a := ⟨_, rfl⟩
      rw [hwd] at HWN hw0 hw1 ⊢
      rw [hcc] at HLN hlc ⊢
      clear hx hwd hcc
      cases hl : leftB ⟨kd, t, st, nm, sp⟩
      · have HLN2 := hide (show leftN (sy.take (k + 1)) = lc + 0 by rw [HLN.out, hl]; rfl)
        clear HLN
        replace HLN := HLN2
        clear HLN2
        rw [hl] at HL
        clear hl
        by_cases h1 : kd = 1
        · subst h1
          replace HWN := hide (show widL (sy.take (k + 1)) = wd + (t.size : Int) from HWN.out)
          go_wp2_with (go_at_call 72; refine (HL.out _).mono ?_; rintro e w' ⟨rfl, hb'⟩; have x0 := (HXX.out.below hb').cell 0; have x1 := (HXX.out.below hb').cell 1; have xl := (HXX.out.below hb').lt; clear hb e0 e1 e2 e3 e4 e5 e6 e7)
          go_roundg (sy.length - (k + 1))
          case measure => rw [hu.out]; omega
          case rel => exact ⟨k + 1, hide rfl, by go_num, by rw [HLN.out]; go_num, by rw [HWN.out], hide ⟨hlt, below_next HBX.out hb', by rw [HWN.out]; omega, by rw [HWN.out]; push_cast; omega⟩⟩
        · have n1 : (kd == 1) = false := by simpa using h1
          replace HWN := hide (show widL (sy.take (k + 1)) = wd + 1 by rw [HWN.out]; unfold widS; rw [if_neg h1])
          clear h1
          go_wp2_with (go_at_call 72; refine (HL.out _).mono ?_; rintro e w' ⟨rfl, hb'⟩; have x0 := (HXX.out.below hb').cell 0; have x1 := (HXX.out.below hb').cell 1; have xl := (HXX.out.below hb').lt; clear hb e0 e1 e2 e3 e4 e5 e6 e7)
          go_roundg (sy.length - (k + 1))
          case measure => rw [hu.out]; omega
          case rel => exact ⟨k + 1, hide rfl, by go_num, by rw [HLN.out]; go_num, by rw [HWN.out], hide ⟨hlt, below_next HBX.out hb', by rw [HWN.out]; omega, by rw [HWN.out]; push_cast; omega⟩⟩
      · have HLN2 := hide (show leftN (sy.take (k + 1)) = lc + 1 by rw [HLN.out, hl]; rfl)
        clear HLN
        replace HLN := HLN2
        clear HLN2
        rw [hl] at HL
        clear hl
        by_cases h1 : kd = 1
        · subst h1
          replace HWN := hide (show widL (sy.take (k + 1)) = wd + (t.size : Int) from HWN.out)
          go_wp2_with (go_at_call 72; refine (HL.out _).mono ?_; rintro e w' ⟨rfl, hb'⟩; have x0 := (HXX.out.below hb').cell 0; have x1 := (HXX.out.below hb').cell 1; have xl := (HXX.out.below hb').lt; clear hb e0 e1 e2 e3 e4 e5 e6 e7)
          go_roundg (sy.length - (k + 1))
          case measure => rw [hu.out]; omega
          case rel => exact ⟨k + 1, hide rfl, by go_num, by rw [HLN.out]; go_num, by rw [HWN.out], hide ⟨hlt, below_next HBX.out hb', by rw [HWN.out]; omega, by rw [HWN.out]; push_cast; omega⟩⟩
        · have n1 : (kd == 1) = false := by simpa using h1
          replace HWN := hide (show widL (sy.take (k + 1)) = wd + 1 by rw [HWN.out]; unfold widS; rw [if_neg h1])
          clear h1
          go_wp2_with (go_at_call 72; refine (HL.out _).mono ?_; rintro e w' ⟨rfl, hb'⟩; have x0 := (HXX.out.below hb').cell 0; have x1 := (HXX.out.below hb').cell 1; have xl := (HXX.out.below hb').lt; clear hb e0 e1 e2 e3 e4 e5 e6 e7)
          go_roundg (sy.length - (k + 1))
          case measure => rw [hu.out]; omega
          case rel => exact ⟨k + 1, hide rfl, by go_num, by rw [HLN.out]; go_num, by rw [HWN.out], hide ⟨hlt, below_next HBX.out hb', by rw [HWN.out]; omega, by rw [HWN.out]; push_cast; omega⟩⟩
    · have hlti : ¬ (k : Int) < (sy.length : Int) := by omega
      have hke : sy.take k = sy := List.take_of_length_le (by omega)
      rw [hke] at hlc hw0 hw1 ⊢
      have HX := HX1.out.below hh.out.2.1
      have x0 := HX.cell 0
      have x4 := HX.cell 4
      have xl := HX.lt
      have bk1 := (HBK.out.below hh.out.2.1).bk.cell 1
      have bkl := (HBK.out.below hh.out.2.1).bk.lt
      have HBE := hide (below_next HB0.out hh.out.2.1)
      have HRS := hide (show res = (decide (4 < leftN sy) || decide (80 < longW d ⟨lx, so, cn, br, sy⟩)) from HRES.out.symm)
      have HLW := hide (show longW d ⟨lx, so, cn, br, sy⟩ = if lx = true ∨ emp d.layout = true then widL sy else widL sy + ((sy.length : Int) - 1) from rfl)
      generalize longW d ⟨lx, so, cn, br, sy⟩ = lw at HRS HLW
      generalize leftN sy = lc at hlc HRS ⊢
      generalize widL sy = wd at hw0 hw1 HLW ⊢
      clear HX hke
      cases lx
      · rcases emp_or d.layout with ⟨bn, zn, y1, y2, y3⟩ | ⟨bn, zn, y1, y2, y3⟩
        · have HLW2 := hide (show lw = wd by rw [HLW.out, if_pos (Or.inr zn.out)])
          clear HLW
          by_cases h4 : 4 < lc
          · have g4 : (lc : Int) > 4 := by omega
            have HF := hide (show res = true by rw [HRS.out, decide_eq_true h4]; rfl)
            clear h4
            go_wp2_with fail
            go_ret
            exact ⟨by rw [HF.out]; rfl, HBE.out⟩
          · have g4 : ¬ (lc : Int) > 4 := by omega
            by_cases h8 : 80 < lw
            · have HF := hide (show res = true by rw [HRS.out, decide_eq_true h8]; simp)
              have g8 : wd > 80 := by rw [HLW2.out] at h8; exact h8
              clear h4 h8
              go_wp2_with fail
              go_ret
              exact ⟨by rw [HF.out]; rfl, HBE.out⟩
            · have HF := hide (show res = false by rw [HRS.out, decide_eq_false h4, decide_eq_false h8]; rfl)
              have g8 : ¬ wd > 80 := by rw [HLW2.out] at h8; exact h8
              clear h4 h8
              go_wp2_with fail
              go_ret
              exact ⟨by rw [HF.out]; rfl, HBE.out⟩
        · have HLW2 := hide (show lw = wd + ((sy.length : Int) - 1) by rw [HLW.out, if_neg (by rw [zn.out]; simp)])
          clear HLW
          by_cases h4 : 4 < lc
          · have g4 : (lc : Int) > 4 := by omega
            have HF := hide (show res = true by rw [HRS.out, decide_eq_true h4]; rfl)
            clear h4
            go_wp2_with fail
            go_ret
            exact ⟨by rw [HF.out]; rfl, HBE.out⟩
          · have g4 : ¬ (lc : Int) > 4 := by omega
            by_cases h8 : 80 < lw
            · have HF := hide (show res = true by rw [HRS.out, decide_eq_true h8]; simp)
              have g8 : wd + ((sy.length : Int) - 1) > 80 := by rw [HLW2.out] at h8; exact h8
              clear h4 h8
              go_wp2_with fail
              go_ret
              exact ⟨by rw [HF.out]; rfl, HBE.out⟩
            · have HF := hide (show res = false by rw [HRS.out, decide_eq_false h4, decide_eq_false h8]; rfl)
              have g8 : ¬ wd + ((sy.length : Int) - 1) > 80 := by rw [HLW2.out] at h8; exact h8
              clear h4 h8
              go_wp2_with fail
              go_ret
              exact ⟨by rw [HF.out]; rfl, HBE.out⟩
      · have HLW2 := hide (show lw = wd by rw [HLW.out, if_pos (Or.inl rfl)])
        clear HLW
        by_cases h4 : 4 < lc
        · have g4 : (lc : Int) > 4 := by omega
          have HF := hide (show res = true by rw [HRS.out, decide_eq_true h4]; rfl)
          clear h4
          go_wp2_with fail
          go_ret
          exact ⟨by rw [HF.out]; rfl, HBE.out⟩
        · have g4 : ¬ (lc : Int) > 4 := by omega
          by_cases h8 : 80 < lw
          · have HF := hide (show res = true by rw [HRS.out, decide_eq_true h8]; simp)
            have g8 : wd > 80 := by rw [HLW2.out] at h8; exact h8
            clear h4 h8
            go_wp2_with fail
            go_ret
            exact ⟨by rw [HF.out]; rfl, HBE.out⟩
          · have HF := hide (show res = false by rw [HRS.out, decide_eq_false h4, decide_eq_false h8]; rfl)
            have g8 : ¬ wd > 80 := by rw [HLW2.out] at h8; exact h8
            clear h4 h8
            go_wp2_with fail
            go_ret
            exact ⟨by rw [HF.out]; rfl, HBE.out⟩
end Go.Proofs.Ytalicfpcmcbdbaa

set_option linter.unusedVariables false
set_option linter.unusedSimpArgs false
set_option linter.unnecessarySimpa false
set_option linter.deprecated false
namespace Go.Proofs.Ytalicfpcmcbdbaa
open Go.RowKit

/-- Start and layout are of their kinds. -/
def endsL (d : Df) : Int × ByteArray := if lexOf d.prods d.start = 2 then (if emp d.layout = true ∨ lexOf d.prods d.layout = 1 then okL else (41, d.layout)) else (40, d.start)
set_option maxHeartbeats 800000 in
set_option maxRecDepth 100000 in
theorem ends_any (d : Df) (a2 : Option Addr) (c2 : Nat) (a3 : Option Addr) (c3 : Nat) (a4 : Option Addr) (c4 : Nat) (a5 : Option Addr) (c5 : Nat) (a6 : Option Addr) (c6 : Nat) (as_ : Option Addr) (cs m n : Nat) (bb : Nat) (w : World) (hbk : Book d a2 c2 a3 c3 a4 c4 a5 c5 a6 c6 as_ cs m n bb w) : Calls Try.prog 37 #[.pointer (some ⟨bb, 0, none⟩)] w fun e w' => e = .returned (.tuple #[.int .i64 ((endsL d).1), .string ((endsL d).2)]) ∧ Below w.heap.size w w' := by
  have bk0 := hbk.bk.cell 0
  have bk1 := hbk.bk.cell 1
  have bk2 := hbk.bk.cell 2
  have bk3 := hbk.bk.cell 3
  have bk4 := hbk.bk.cell 4
  have bk5 := hbk.bk.cell 5
  have bk6 := hbk.bk.cell 6
  have bk7 := hbk.bk.cell 7
  have bk8 := hbk.bk.cell 8
  have bkl := hbk.bk.lt
  have HBK := hide hbk
  clear hbk
  obtain ⟨res, hres⟩ : ∃ r, endsL d = r := ⟨_, rfl⟩
  have HRES := hide hres
  rw [hres]
  clear hres
  obtain ⟨n0, hn0⟩ : ∃ n0, lexOf d.prods d.start = n0 := ⟨_, rfl⟩
  obtain ⟨n1, hn1⟩ : ∃ n1, lexOf d.prods d.layout = n1 := ⟨_, rfl⟩
  have hl0 : ∀ n, (Instr.lookup 85 (.map (some m)) (.string d.start) false).run Try.prog (w.drewN n) = .ok (.int .i64 n0) (w.drewN n) := fun n => by
    have := (show MapF (w.drewN n) m _ (lexOf d.prods) from HBK.out.mp).look d.start HBK.out.rd.s
    rw [hn0] at this; exact this
  have hl1 : ∀ n, (Instr.lookup 85 (.map (some m)) (.string d.layout) false).run Try.prog (w.drewN n) = .ok (.int .i64 n1) (w.drewN n) := fun n => by
    have := (show MapF (w.drewN n) m _ (lexOf d.prods) from HBK.out.mp).look d.layout HBK.out.rd.l
    rw [hn1] at this; exact this
  have hl2 : ∀ n k, (Instr.lookup 85 (.map (some m)) (.string d.layout) false).run Try.prog ((w.drewN n).drewN k) = .ok (.int .i64 n1) ((w.drewN n).drewN k) := fun n k => by
    have := (show MapF ((w.drewN n).drewN k) m _ (lexOf d.prods) from HBK.out.mp).look d.layout HBK.out.rd.l
    rw [hn1] at this; exact this
  by_cases h2 : n0 = 2
  · subst h2
    rcases emp_or d.layout with ⟨bn, zn, y1, y2, y3⟩ | ⟨bn, zn, y1, y2, y3⟩
    · have HF := hide (show res = okL by rw [← HRES.out]; unfold endsL; rw [if_pos hn0, if_pos (Or.inl zn.out)])
      clear hl1 hl2 hn0 hn1
      go_enter Try.func37, Try.ntmps37
      go_upto_region 1 with fail
      go_quiet (fail)
      go_upto_region 3 with fail
      go_quiet (fail)
      go_wp2_with fail
      go_ret2
      exact ⟨by rw [HF.out]; rfl, (Below.refl w.heap.size w).trans ⟨rfl, rfl, rfl, Nat.le_refl _, fun _ _ => rfl⟩⟩
    · by_cases h1 : n1 = 1
      · subst h1
        have HF := hide (show res = okL by rw [← HRES.out]; unfold endsL; rw [if_pos hn0, if_pos (Or.inr hn1)])
        clear hn0 hn1
        go_enter Try.func37, Try.ntmps37
        go_upto_region 1 with fail
        go_quiet (fail)
        go_upto_region 3 with fail
        go_quiet (fail)
        go_wp2_with fail
        go_ret2
        exact ⟨by rw [HF.out]; rfl, (Below.refl w.heap.size w).trans ⟨rfl, rfl, rfl, Nat.le_refl _, fun _ _ => rfl⟩⟩
      · have HF := hide (show res = (41, d.layout) by rw [← HRES.out]; unfold endsL; rw [if_pos hn0, if_neg (by rw [zn.out, hn1]; simp [h1])])
        have q1 : (n1 == 1) = false := by simpa using h1
        have q2 : (n1 != 1) = true := by simpa using h1
        clear hn0 hn1
        go_enter Try.func37, Try.ntmps37
        go_upto_region 1 with fail
        go_quiet (fail)
        go_upto_region 3 with fail
        go_quiet (fail)
        go_upto_region 4 with fail
        go_quiet (fail)
        go_wp2_with fail
        go_ret2
        exact ⟨by rw [HF.out]; rfl, (Below.refl w.heap.size w).trans ⟨rfl, rfl, rfl, Nat.le_refl _, fun _ _ => rfl⟩⟩
  · have HF := hide (show res = (40, d.start) by rw [← HRES.out]; unfold endsL; rw [if_neg (by rw [hn0]; exact h2)])
    have q1 : (n0 == 2) = false := by simpa using h2
    have q2 : (n0 != 2) = true := by simpa using h2
    clear hn0 hn1 hl1 hl2
    go_enter Try.func37, Try.ntmps37
    go_upto_region 1 with fail
    go_quiet (fail)
    go_upto_region 2 with fail
    go_quiet (fail)
    go_wp2_with fail
    go_ret2
    exact ⟨by rw [HF.out]; rfl, (Below.refl w.heap.size w).trans ⟨rfl, rfl, rfl, Nat.le_refl _, fun _ _ => rfl⟩⟩
end Go.Proofs.Ytalicfpcmcbdbaa
