/- The reference: Omits, Omitted. The reference: bareOf. -/
import Derived.Test.YtalicfpcmcbdbaaZLook7
import Derived.BigQuiet
import Derived.Test.YtalicfpcmcbdbaaZBare
set_option linter.unusedVariables false
set_option linter.unusedSimpArgs false
set_option linter.unnecessarySimpa false
set_option linter.deprecated false
namespace Go.Proofs.Ytalicfpcmcbdbaa
open Go.RowKit

set_option maxHeartbeats 800000 in
set_option maxRecDepth 100000 in
theorem omits_any (x : Sy) (w : World) : Calls Try.prog 98 #[.agg #[.int .i64 x.kind, .string x.text, .int .u64 (x.set.w0 : Int), .int .u64 (x.set.w1 : Int), .int .u64 (x.set.w2 : Int), .int .u64 (x.set.w3 : Int), .string x.name, .string x.sep]] w fun e w' => e = .returned (.bool (leftB x)) ∧ Below w.heap.size w w' := by
  obtain ⟨kd, t, s, n, p⟩ := x
  have HB := hide ((Below.refl w.heap.size w).alloc (Nat.le_refl _) (.cells #[.int .i64 kd, .string t, .int .u64 (s.w0 : Int), .int .u64 (s.w1 : Int), .int .u64 (s.w2 : Int), .int .u64 (s.w3 : Int), .string n, .string p] 61))
  by_cases h4 : kd = 4
  · subst h4
    go_enter Try.func98, Try.ntmps98
    go_wp2_with fail
    go_ret
    exact ⟨rfl, HB.out⟩
  · have n4 : (kd == 4) = false := by simpa using h4
    by_cases h5 : kd = 5
    · subst h5
      go_enter Try.func98, Try.ntmps98
      go_wp2_with fail
      go_ret
      exact ⟨rfl, HB.out⟩
    · have n5 : (kd == 5) = false := by simpa using h5
      have HL : Hid (leftB ⟨kd, t, s, n, p⟩ = false) := by show leftB _ = false; unfold leftB; simp [h4, h5]
      clear h4 h5
      go_enter Try.func98, Try.ntmps98
      go_wp2_with fail
      go_ret
      exact ⟨by rw [HL.out]; rfl, HB.out⟩
set_option maxHeartbeats 800000 in
set_option maxRecDepth 100000 in
theorem omitted_any (p : Pd) (ap : Option Addr) (cp : Nat) (w : World) (hr : Row SyAt 8 p.syms ap w) (hpl : p.syms.length ≤ 10000) : Calls Try.prog 95 #[.agg #[.bool p.lex, .string p.sort, .string p.cons, .bool p.bracket, .slice ap p.syms.length cp]] w fun e w' => e = .returned (.int .i64 (leftN p.syms : Int)) ∧ Below w.heap.size w w' := by
  have HB0 := hide ((Below.refl w.heap.size w).alloc (Nat.le_refl _) (.cells #[.bool p.lex, .string p.sort, .string p.cons, .bool p.bracket, .slice ap p.syms.length cp] 38))
  have HX0 := hide (Blk.new w #[.bool p.lex, .string p.sort, .string p.cons, .bool p.bracket, .slice ap p.syms.length cp] 38)
  have HR := hide (hr.below SyAt.stable HB0.out)
  obtain ⟨res, hres⟩ : ∃ r, leftN p.syms = r := ⟨_, rfl⟩
  rw [hres]
  have HRES := hide hres
  obtain ⟨lx, so, cn, br, sy⟩ := p
  have hpl : sy.length ≤ 10000 := hpl
  clear hr hres
  go_enter Try.func95, Try.ntmps95
  go_upto_region 1 with fail
  obtain ⟨kx, hkx⟩ : ∃ kx, w.heap.size = kx := ⟨_, rfl⟩
  obtain ⟨w1, h1⟩ : ∃ w1, w.alloc (.cells #[.bool lx, .string so, .string cn, .bool br, .slice ap sy.length cp] 38) = w1 := ⟨_, rfl⟩
  replace HB0 := hide (show Below w.heap.size w w1 by rw [← h1]; exact HB0.out)
  replace HX0 := hide (show Blk w1 kx #[.bool lx, .string so, .string cn, .bool br, .slice ap sy.length cp] 38 by rw [← h1, ← hkx]; exact HX0.out)
  replace HR := hide (show Row SyAt 8 sy ap w1 by rw [← h1]; exact HR.out)
  rw [h1, hkx]
  clear h1 hkx
  go_wp2_with fail
  go_loopg [3, 4] sy.length (fun u v3 v4 wr => ∃ k : Nat, Hid (u = sy.length - k) ∧ v4 = .int .i64 (k : Int) ∧ v3 = .int .i64 (leftN (sy.take k) : Int) ∧ Hid (k ≤ sy.length ∧ Below w1.heap.size w1 wr))
  case atStart => exact ⟨0, hide rfl, rfl, rfl, hide ⟨Nat.zero_le _, Below.refl _ _⟩⟩
  case round =>
    obtain ⟨k, hu, rfl, rfl, hh⟩ := hrel
    have hkl := hh.out.1
    have x4 := (HX0.out.below hh.out.2).cell 4
    have xl := (HX0.out.below hh.out.2).lt
    by_cases hlt : k < sy.length
    · have hlti : (k : Int) < (sy.length : Int) := by omega
      obtain ⟨b, o, rfl, hb, hat⟩ := (HR.out.below SyAt.stable hh.out.2).get hlt
      have hx := hat k hlt
      have HLN := hide (leftN_snoc (sy.take k) sy[k])
      rw [← take_snoc sy k hlt] at HLN
      have hlc := leftN_le (sy.take k)
      rw [List.length_take] at hlc
      generalize sy[k] = x at hx HLN
      clear hat
      obtain ⟨kd, t, st, nm, sp⟩ := x
      obtain ⟨e0, e1, e2, e3, e4, e5, e6, e7⟩ := hx.cells
      have HO := hide (omits_any ⟨kd, t, st, nm, sp⟩ wr)
      obtain ⟨lc, hlc2⟩ : ∃ lc, leftN (sy.take k) = lc := ⟨_, rfl⟩
      rw [hlc2] at HLN hlc ⊢
      clear hx hlc2
      cases hl : leftB ⟨kd, t, st, nm, sp⟩ with
      | false =>
        rw [hl] at HO HLN
        replace HLN := hide (show leftN (sy.take (k + 1)) = lc + 0 from HLN.out)
        clear hl
        go_wp2_with fail
        refine HO.out.mono ?_
        rintro e w2 ⟨rfl, hb2⟩
        go_wp2_with fail
        go_roundg (sy.length - (k + 1))
        case measure => rw [hu.out]; omega
        case rel => exact ⟨k + 1, hide rfl, by go_num, by rw [HLN.out]; go_num, hide ⟨hlt, below_next hh.out.2 hb2⟩⟩
      | true =>
        rw [hl] at HO HLN
        replace HLN := hide (show leftN (sy.take (k + 1)) = lc + 1 from HLN.out)
        clear hl
        go_wp2_with fail
        refine HO.out.mono ?_
        rintro e w2 ⟨rfl, hb2⟩
        go_wp2_with fail
        go_roundg (sy.length - (k + 1))
        case measure => rw [hu.out]; omega
        case rel => exact ⟨k + 1, hide rfl, by go_num, by rw [HLN.out]; go_num, hide ⟨hlt, below_next hh.out.2 hb2⟩⟩
    · have hlti : ¬ (k : Int) < (sy.length : Int) := by omega
      have HKE := hide (show leftN (sy.take k) = res by rw [List.take_of_length_le (by omega)]; exact HRES.out)
      go_wp2_with fail
      go_ret
      exact ⟨by rw [HKE.out]; rfl, below_next HB0.out hh.out.2⟩
end Go.Proofs.Ytalicfpcmcbdbaa

set_option linter.unusedVariables false
set_option linter.unusedSimpArgs false
set_option linter.unnecessarySimpa false
set_option linter.deprecated false
namespace Go.Proofs.Ytalicfpcmcbdbaa
open Go.RowKit

def barS (s : Sy) : ByteArray := if s.kind = 3 ∨ s.kind = 6 then s.name else emptyB
def barN (l : List Sy) : ByteArray := match (mustOf l).getLast? with
  | some s => barS s
  | none => emptyB
theorem must_snoc (l : List Sy) (s : Sy) : mustOf (l ++ [s]) = if leftB s = true then mustOf l else mustOf l ++ [s] := by
  unfold mustOf
  rw [List.filter_append]
  cases h : leftB s <;> simp [h]
theorem barN_snoc (l : List Sy) (s : Sy) : barN (l ++ [s]) = if leftB s = true then barN l else barS s := by
  unfold barN
  rw [must_snoc]
  cases h : leftB s <;> simp
def bareR (p : Pd) : ByteArray := if (mustOf p.syms).length = 1 then barN p.syms else emptyB
theorem emp_emptyB : emp emptyB = true := by kernel_rfl
theorem bareL_R (p : Pd) : bareL p = if emp (bareR p) = true then [] else [bareR p] := by
  unfold bareL bareR barN barS
  generalize mustOf p.syms = l
  match l with
  | [] => rw [if_neg (show ¬ ([] : List Sy).length = 1 by simp), if_pos emp_emptyB]
  | [s] =>
    simp only [List.length_cons, List.length_nil, Nat.zero_add, if_true, List.getLast?_singleton]
    by_cases h : s.kind = 3 ∨ s.kind = 6
    · rw [if_pos h]
      cases he : emp s.name
      · rw [if_pos ⟨h, rfl⟩, if_neg (by decide)]
      · rw [if_neg (by simp), if_pos rfl]
    · rw [if_neg h, if_neg (fun h2 => h h2.1), if_pos emp_emptyB]
  | x :: y :: r => rw [if_neg (show ¬ (x :: y :: r).length = 1 by simp), if_pos emp_emptyB]
theorem must_le (l : List Sy) : (mustOf l).length ≤ l.length := List.length_filter_le _ _
set_option maxHeartbeats 800000 in
set_option maxRecDepth 100000 in
theorem bareOf_any (p : Pd) (ap : Option Addr) (cp : Nat) (w : World) (hr : Row SyAt 8 p.syms ap w) (hpl : p.syms.length ≤ 10000) : Calls Try.prog 83 #[.agg #[.bool p.lex, .string p.sort, .string p.cons, .bool p.bracket, .slice ap p.syms.length cp]] w fun e w' => e = .returned (.string (bareR p)) ∧ Below w.heap.size w w' := by
  have HB0 := hide ((Below.refl w.heap.size w).alloc (Nat.le_refl _) (.cells #[.bool p.lex, .string p.sort, .string p.cons, .bool p.bracket, .slice ap p.syms.length cp] 38))
  have HX0 := hide (Blk.new w #[.bool p.lex, .string p.sort, .string p.cons, .bool p.bracket, .slice ap p.syms.length cp] 38)
  have HR := hide (hr.below SyAt.stable HB0.out)
  obtain ⟨res, hres⟩ : ∃ r, bareR p = r := ⟨_, rfl⟩
  rw [hres]
  have HRES := hide hres
  obtain ⟨lx, so, cn, br, sy⟩ := p
  have hpl : sy.length ≤ 10000 := hpl
  clear hr hres
  go_enter Try.func83, Try.ntmps83
  go_upto_region 1 with fail
  obtain ⟨kx, hkx⟩ : ∃ kx, w.heap.size = kx := ⟨_, rfl⟩
  obtain ⟨w1, h1⟩ : ∃ w1, w.alloc (.cells #[.bool lx, .string so, .string cn, .bool br, .slice ap sy.length cp] 38) = w1 := ⟨_, rfl⟩
  replace HB0 := hide (show Below w.heap.size w w1 by rw [← h1]; exact HB0.out)
  replace HX0 := hide (show Blk w1 kx #[.bool lx, .string so, .string cn, .bool br, .slice ap sy.length cp] 38 by rw [← h1, ← hkx]; exact HX0.out)
  replace HR := hide (show Row SyAt 8 sy ap w1 by rw [← h1]; exact HR.out)
  rw [h1, hkx]
  clear h1 hkx
  go_wp2_with fail
  go_loopg [3, 4, 5] sy.length (fun u v3 v4 v5 wr => ∃ k : Nat, Hid (u = sy.length - k) ∧ v5 = .int .i64 (k : Int) ∧ v3 = .int .i64 ((mustOf (sy.take k)).length : Int) ∧ v4 = .string (barN (sy.take k)) ∧ Hid (k ≤ sy.length ∧ Below w1.heap.size w1 wr))
  case atStart => exact ⟨0, hide rfl, rfl, rfl, rfl, hide ⟨Nat.zero_le _, Below.refl _ _⟩⟩
  case round =>
    obtain ⟨k, hu, rfl, rfl, rfl, hh⟩ := hrel
    have hkl := hh.out.1
    have x4 := (HX0.out.below hh.out.2).cell 4
    have xl := (HX0.out.below hh.out.2).lt
    by_cases hlt : k < sy.length
    · have hlti : (k : Int) < (sy.length : Int) := by omega
      obtain ⟨b, o, rfl, hb, hat⟩ := (HR.out.below SyAt.stable hh.out.2).get hlt
      have hx := hat k hlt
      have HMN := hide (must_snoc (sy.take k) sy[k])
      have HBN := hide (barN_snoc (sy.take k) sy[k])
      rw [← take_snoc sy k hlt] at HMN HBN
      have hml := must_le (sy.take k)
      rw [List.length_take] at hml
      generalize sy[k] = x at hx HMN HBN
      clear hat
      obtain ⟨kd, t, st, nm, sp⟩ := x
      obtain ⟨e0, e1, e2, e3, e4, e5, e6, e7⟩ := hx.cells
      obtain ⟨mc, hmc⟩ : ∃ mc, (mustOf (sy.take k)).length = mc := ⟨_, rfl⟩
      obtain ⟨bc, hbc⟩ : ∃ bc, barN (sy.take k) = bc := ⟨_, rfl⟩
      replace HMN := hide (show (mustOf (sy.take (k + 1))).length = if leftB ⟨kd, t, st, nm, sp⟩ = true then mc else mc + 1 by
        rw [HMN.out, ← hmc]
        cases leftB ⟨kd, t, st, nm, sp⟩ <;> simp)
      rw [hbc] at HBN ⊢
      rw [hmc] at hml ⊢
      have HBR := hide hh.out.2
      clear hx hh hmc hbc
      go_upto_region 6 with fail
      obtain ⟨ks, hks⟩ : ∃ ks, wr.heap.size = ks := ⟨_, rfl⟩
      obtain ⟨w6, h6⟩ : ∃ w6, wr.alloc (.cells #[.int .i64 kd, .string t, .int .u64 (st.w0 : Int), .int .u64 (st.w1 : Int), .int .u64 (st.w2 : Int), .int .u64 (st.w3 : Int), .string nm, .string sp] 61) = w6 := ⟨_, rfl⟩
      have hb6 : Below wr.heap.size wr w6 := by rw [← h6]; exact NB.alloc (Below.refl _ _) _
      have HS6 := hide (show Blk w6 ks #[.int .i64 kd, .string t, .int .u64 (st.w0 : Int), .int .u64 (st.w1 : Int), .int .u64 (st.w2 : Int), .int .u64 (st.w3 : Int), .string nm, .string sp] 61 by rw [← h6, ← hks]; exact Blk.new wr _ _)
      have HB6 := hide (below_next HBR.out hb6)
      rw [h6, hks]
      clear h6 hks hb6 e0 e1 e2 e3 e4 e5 e6 e7 hb x4 xl
      have s0 := HS6.out.cell 0
      have s1 := HS6.out.cell 1
      have s2 := HS6.out.cell 2
      have s3 := HS6.out.cell 3
      have s4 := HS6.out.cell 4
      have s5 := HS6.out.cell 5
      have s6 := HS6.out.cell 6
      have s7 := HS6.out.cell 7
      have sl := HS6.out.lt
      have HO := hide (omits_any ⟨kd, t, st, nm, sp⟩ w6)
      cases hl : leftB ⟨kd, t, st, nm, sp⟩ with
      | true =>
        rw [hl] at HO HMN HBN
        have HLN := hide (show (mustOf (sy.take (k + 1))).length = mc from HMN.out)
        replace HBN := hide (show barN (sy.take (k + 1)) = bc from HBN.out)
        clear hl HMN
        go_wp2_with fail
        refine HO.out.mono ?_
        rintro e w7 ⟨rfl, hb7⟩
        have HBB := hide (below_next HB6.out hb7)
        clear s0 s1 s2 s3 s4 s5 s6 s7 sl
        go_wp2_with fail
        go_roundg (sy.length - (k + 1))
        case measure => rw [hu.out]; omega
        case rel => exact ⟨k + 1, hide rfl, by go_num, by rw [HLN.out], by rw [HBN.out], hide ⟨hlt, HBB.out⟩⟩
      | false =>
        rw [hl] at HO HMN HBN
        have HLN := hide (show (mustOf (sy.take (k + 1))).length = mc + 1 from HMN.out)
        replace HBN := hide (show barN (sy.take (k + 1)) = barS ⟨kd, t, st, nm, sp⟩ from HBN.out)
        clear hl HMN
        go_wp2_with fail
        refine HO.out.mono ?_
        rintro e w7 ⟨rfl, hb7⟩
        have HBB := hide (below_next HB6.out hb7)
        clear s1 s2 s3 s4 s5 s7
        replace s0 := (HS6.out.below hb7).cell 0
        replace s6 := (HS6.out.below hb7).cell 6
        replace sl := (HS6.out.below hb7).lt
        by_cases h3 : kd = 3
        · have k3 : (kd == 3) = true := by rw [h3]; rfl
          replace HBN := hide (show barN (sy.take (k + 1)) = nm by rw [HBN.out]; unfold barS; rw [if_pos (Or.inl h3)])
          clear h3
          go_wp2_with fail
          go_roundg (sy.length - (k + 1))
          case measure => rw [hu.out]; omega
          case rel => exact ⟨k + 1, hide rfl, by go_num, by rw [HLN.out]; go_num, by rw [HBN.out], hide ⟨hlt, HBB.out⟩⟩
        · have k3 : (kd == 3) = false := by simpa using h3
          by_cases h6 : kd = 6
          · have k6 : (kd == 6) = true := by rw [h6]; rfl
            replace HBN := hide (show barN (sy.take (k + 1)) = nm by rw [HBN.out]; unfold barS; rw [if_pos (Or.inr h6)])
            clear h3 h6
            go_wp2_with fail
            go_roundg (sy.length - (k + 1))
            case measure => rw [hu.out]; omega
            case rel => exact ⟨k + 1, hide rfl, by go_num, by rw [HLN.out]; go_num, by rw [HBN.out], hide ⟨hlt, HBB.out⟩⟩
          · have k6 : (kd == 6) = false := by simpa using h6
            replace HBN := hide (show barN (sy.take (k + 1)) = emptyB by rw [HBN.out]; unfold barS; rw [if_neg (by rintro (h | h); exact h3 h; exact h6 h)])
            clear h3 h6
            go_wp2_with fail
            go_roundg (sy.length - (k + 1))
            case measure => rw [hu.out]; omega
            case rel => exact ⟨k + 1, hide rfl, by go_num, by rw [HLN.out]; go_num, by rw [HBN.out]; rfl, hide ⟨hlt, HBB.out⟩⟩
    · have hlti : ¬ (k : Int) < (sy.length : Int) := by omega
      have hte : sy.take k = sy := List.take_of_length_le (by omega)
      rw [hte]
      have hml := must_le sy
      have HRS := hide HRES.out
      by_cases h1 : (mustOf sy).length = 1
      · have HF := hide (show res = barN sy by rw [← HRES.out]; unfold bareR; rw [if_pos h1])
        have n1 : (((mustOf sy).length : Int) != 1) = false := by rw [h1]; rfl
        have n2 : ((mustOf sy).length != 1) = false := by rw [h1]; rfl
        have HBB := hide hh.out.2
        clear h1 hh hml
        generalize (mustOf sy).length = mc at n1 n2 ⊢
        go_wp2_with fail
        go_ret
        exact ⟨by rw [HF.out]; rfl, below_next HB0.out HBB.out⟩
      · have HF := hide (show res = emptyB by rw [← HRES.out]; unfold bareR; rw [if_neg h1])
        have n1 : (((mustOf sy).length : Int) != 1) = true := by rw [bne_iff_ne]; omega
        have n2 : ((mustOf sy).length != 1) = true := by rw [bne_iff_ne]; exact h1
        have HBB := hide hh.out.2
        clear h1 hh hml
        generalize (mustOf sy).length = mc at n1 n2 ⊢
        go_wp2_with fail
        go_ret
        exact ⟨by rw [HF.out]; rfl, below_next HB0.out HBB.out⟩
end Go.Proofs.Ytalicfpcmcbdbaa
