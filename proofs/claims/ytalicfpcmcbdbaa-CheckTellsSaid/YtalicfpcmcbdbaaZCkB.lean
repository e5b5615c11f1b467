/- The reference: Size. -/
import Derived.Test.YtalicfpcmcbdbaaZCkF
set_option linter.unusedVariables false
set_option linter.unusedSimpArgs false
set_option linter.unnecessarySimpa false
set_option linter.deprecated false
namespace Go.Proofs.Ytalicfpcmcbdbaa
open Go.RowKit

/-- How long a production's rule is. -/
def sizL (d : Df) (lx : Bool) (l : List Sy) : Int := if lx = true ∨ emp d.layout = true then widL l else widL l + (if l.length = 0 then 0 else (l.length : Int) - 1)
theorem sizL_snoc0 (d : Df) (lx : Bool) (l : List Sy) (s : Sy) (h : l.length = 0 ∨ lx = true ∨ emp d.layout = true) : sizL d lx (l ++ [s]) = sizL d lx l + widS s := by
  unfold sizL
  rw [widL_snoc]
  by_cases h1 : lx = true ∨ emp d.layout = true
  · rw [if_pos h1, if_pos h1]
  · rw [if_neg h1, if_neg h1]
    have h0 : l.length = 0 := h.resolve_right h1
    rw [if_pos h0, if_neg (by simp), List.length_append, h0]; simp
theorem sizL_snoc1 (d : Df) (lx : Bool) (l : List Sy) (s : Sy) (h : l.length ≠ 0) (h1 : ¬ (lx = true ∨ emp d.layout = true)) : sizL d lx (l ++ [s]) = sizL d lx l + 1 + widS s := by
  unfold sizL
  rw [widL_snoc, if_neg h1, if_neg h1, if_neg h, if_neg (by simp), List.length_append]
  simp
  omega
theorem longB_size (d : Df) (p : Pd) : longB d p = (decide (4 < leftN p.syms) || decide (80 < sizL d p.lex p.syms)) := by
  unfold longB longW sizL
  by_cases h1 : p.lex = true ∨ emp d.layout = true
  · rw [if_pos h1, if_pos h1]
  · rw [if_neg h1, if_neg h1]
    by_cases h0 : p.syms.length = 0
    · have : p.syms = [] := List.eq_nil_of_length_eq_zero h0
      rw [if_pos h0, this]; simp [widL, leftN]
    · rw [if_neg h0]
set_option maxHeartbeats 800000 in
set_option maxRecDepth 100000 in
theorem size_any (d : Df) (a2 : Option Addr) (c2 : Nat) (a3 : Option Addr) (c3 : Nat) (a4 : Option Addr) (c4 : Nat) (a5 : Option Addr) (c5 : Nat) (a6 : Option Addr) (c6 : Nat) (p : Pd) (ap : Option Addr) (cp : Nat) (w : World) (hd : RD d ⟨a2, c2, a3, c3, a4, c4, a5, c5, a6, c6⟩ w) (hr : Row SyAt 8 p.syms ap w) (hpl : p.syms.length ≤ 10000) : Calls Try.prog 96 #[.agg #[.string d.start, .string d.layout, .slice a2 d.prods.length c2, .slice a3 d.chains.length c3, .slice a4 d.follows.length c4, .slice a5 d.rejects.length c5, .slice a6 d.boxes.length c6], .agg #[.bool p.lex, .string p.sort, .string p.cons, .bool p.bracket, .slice ap p.syms.length cp]] w fun e w' => e = .returned (.int .i64 (sizL d p.lex p.syms)) ∧ Below w.heap.size w w' := by
  have HD := hide hd
  have HR := hide hr
  obtain ⟨res, hres⟩ : ∃ r, sizL d p.lex p.syms = r := ⟨_, rfl⟩
  rw [hres]
  have HRES := hide hres
  obtain ⟨lx, so, cn, br, sy⟩ := p
  have hpl : sy.length ≤ 10000 := hpl
  clear hr hres hd
  go_enter Try.func96, Try.ntmps96
  go_upto_region 1 with fail
  obtain ⟨kd, hkd⟩ : ∃ kd, w.heap.size = kd := ⟨_, rfl⟩
  obtain ⟨w0, h0⟩ : ∃ w0, w.alloc (.cells #[.string d.start, .string d.layout, .slice a2 d.prods.length c2, .slice a3 d.chains.length c3, .slice a4 d.follows.length c4, .slice a5 d.rejects.length c5, .slice a6 d.boxes.length c6] 28) = w0 := ⟨_, rfl⟩
  have HB0 := hide (show Below w.heap.size w w0 by rw [← h0]; exact NB.alloc (Below.refl _ _) _)
  have HDX0 := hide (show Blk w0 kd #[.string d.start, .string d.layout, .slice a2 d.prods.length c2, .slice a3 d.chains.length c3, .slice a4 d.follows.length c4, .slice a5 d.rejects.length c5, .slice a6 d.boxes.length c6] 28 by rw [← h0, ← hkd]; exact Blk.new w _ _)
  have hs0 : w0.heap.size = kd + 1 := by rw [← h0, ← hkd]; simp
  rw [h0, hkd]
  clear h0
  obtain ⟨w1, h1⟩ : ∃ w1, w0.alloc (.cells #[.bool lx, .string so, .string cn, .bool br, .slice ap sy.length cp] 38) = w1 := ⟨_, rfl⟩
  have hb1 : Below w0.heap.size w0 w1 := by rw [← h1]; exact NB.alloc (Below.refl _ _) _
  have HX0 := hide (show Blk w1 (kd + 1) #[.bool lx, .string so, .string cn, .bool br, .slice ap sy.length cp] 38 by rw [← h1, ← hs0]; exact Blk.new w0 _ _)
  have HDX := hide (HDX0.out.below hb1)
  replace HB0 := hide (below_next HB0.out hb1)
  replace HR := hide (HR.out.below SyAt.stable HB0.out)
  replace HD := hide (HD.out.below HB0.out)
  rw [h1]
  obtain ⟨kx, hkx⟩ : ∃ kx, kd + 1 = kx := ⟨_, rfl⟩
  rw [hkx] at HX0 ⊢
  clear h1 hkx hb1 HDX0 hs0 hkd
  go_wp2_with fail
  go_loopg [5, 6] sy.length (fun u v5 v6 wr => ∃ k : Nat, Hid (u = sy.length - k) ∧ v6 = .int .i64 (k : Int) ∧ v5 = .int .i64 (sizL d lx (sy.take k)) ∧ Hid (k ≤ sy.length ∧ w1 = wr ∧ 0 ≤ sizL d lx (sy.take k) ∧ sizL d lx (sy.take k) ≤ (k : Int) * 140737488351240))
  case atStart => exact ⟨0, hide rfl, rfl, by simp [sizL, widL], hide ⟨Nat.zero_le _, rfl, by simp [sizL, widL], by simp [sizL, widL]⟩⟩
  case round =>
    obtain ⟨k, hu, rfl, rfl, hh⟩ := hrel
    have hkl := hh.out.1
    obtain rfl := hh.out.2.1
    have hw0 := hh.out.2.2.1
    have hw1 := hh.out.2.2.2
    have x0 := HX0.out.cell 0
    have x4 := HX0.out.cell 4
    have xl := HX0.out.lt
    have y1 := HDX.out.cell 1
    have yl := HDX.out.lt
    by_cases hlt : k < sy.length
    · have hlti : (k : Int) < (sy.length : Int) := by omega
      obtain ⟨b, o, rfl, hb, hat⟩ := HR.out.get hlt
      have hx := hat k hlt
      have hlk : (sy.take k).length = k := by rw [List.length_take]; omega
      have HS0 := hide (sizL_snoc0 d lx (sy.take k) sy[k])
      have HS1 := hide (sizL_snoc1 d lx (sy.take k) sy[k])
      rw [← take_snoc sy k hlt, hlk] at HS0 HS1
      generalize sy[k] = x at hx HS0 HS1
      clear hat hlk
      obtain ⟨kd, t, st, nm, sp⟩ := x
      obtain ⟨e0, e1, e2, e3, e4, e5, e6, e7⟩ := hx.cells
      have htx : t.size ≤ 140737488351232 := hx.1.t
      have ht0 : (0 : Int) ≤ (t.size : Int) := by omega
      obtain ⟨wd, hwd⟩ : ∃ a, sizL d lx (sy.take k) = a := ⟨_, rfl⟩
      obtain ⟨wn, hwn⟩ : ∃ a, sizL d lx (sy.take (k + 1)) = a := ⟨_, rfl⟩
      rw [hwd] at hw0 hw1 HS0 HS1 ⊢
      rw [hwn] at HS0 HS1
      have HWN := hide hwn
      clear hx hwd hwn
      by_cases hk0 : k = 0
      · have HS := hide (HS0.out (Or.inl hk0))
        have hkp : decide (0 < k) = false := decide_eq_false (by omega)
        clear hk0
        by_cases h1 : kd = 1
        · subst h1
          have HN := hide (show wn = wd + (t.size : Int) from HS.out)
          clear HS0 HS1
          go_wp2_with fail
          go_roundg (sy.length - (k + 1))
          case measure => rw [hu.out]; omega
          case rel => exact ⟨k + 1, hide rfl, by go_num, by rw [HWN.out, HN.out], hide ⟨hlt, rfl, by rw [HWN.out, HN.out]; omega, by rw [HWN.out, HN.out]; push_cast; omega⟩⟩
        · have n1 : (kd == 1) = false := by simpa using h1
          have HN := hide (show wn = wd + 1 from (by rw [HS.out]; unfold widS; rw [if_neg h1]))
          clear h1
          clear HS0 HS1
          go_wp2_with fail
          go_roundg (sy.length - (k + 1))
          case measure => rw [hu.out]; omega
          case rel => exact ⟨k + 1, hide rfl, by go_num, by rw [HWN.out, HN.out], hide ⟨hlt, rfl, by rw [HWN.out, HN.out]; omega, by rw [HWN.out, HN.out]; push_cast; omega⟩⟩
      · have hkp : decide (0 < k) = true := decide_eq_true (by omega)
        obtain ⟨lz, hlz⟩ : ∃ lz, lx = lz := ⟨_, rfl⟩
        rw [hlz] at x0
        have HLZ := hide hlz
        clear hlz
        cases lz with
        | true =>
          have HS := hide (HS0.out (Or.inr (Or.inl HLZ.out)))
          by_cases h1 : kd = 1
          · subst h1
            have HN := hide (show wn = wd + (t.size : Int) from HS.out)
            clear HS0 HS1
            go_wp2_with fail
            go_roundg (sy.length - (k + 1))
            case measure => rw [hu.out]; omega
            case rel => exact ⟨k + 1, hide rfl, by go_num, by rw [HWN.out, HN.out], hide ⟨hlt, rfl, by rw [HWN.out, HN.out]; omega, by rw [HWN.out, HN.out]; push_cast; omega⟩⟩
          · have n1 : (kd == 1) = false := by simpa using h1
            have HN := hide (show wn = wd + 1 from (by rw [HS.out]; unfold widS; rw [if_neg h1]))
            clear h1
            clear HS0 HS1
            go_wp2_with fail
            go_roundg (sy.length - (k + 1))
            case measure => rw [hu.out]; omega
            case rel => exact ⟨k + 1, hide rfl, by go_num, by rw [HWN.out, HN.out], hide ⟨hlt, rfl, by rw [HWN.out, HN.out]; omega, by rw [HWN.out, HN.out]; push_cast; omega⟩⟩
        | false =>
          rcases emp_or d.layout with ⟨bn, zn, yn, vn, xn⟩ | ⟨bn, zn, yn, vn, xn⟩
          · have hne : (d.layout.toList == []) = true := by rw [xn]; rfl
            have hne2 : (!d.layout.toList == []) = false := by rw [hne]; rfl
            have HS := hide (HS0.out (Or.inr (Or.inr zn.out)))
            by_cases h1 : kd = 1
            · subst h1
              have HN := hide (show wn = wd + (t.size : Int) from HS.out)
              clear HS0 HS1
              go_wp2_with fail
              go_roundg (sy.length - (k + 1))
              case measure => rw [hu.out]; omega
              case rel => exact ⟨k + 1, hide rfl, by go_num, by rw [HWN.out, HN.out], hide ⟨hlt, rfl, by rw [HWN.out, HN.out]; omega, by rw [HWN.out, HN.out]; push_cast; omega⟩⟩
            · have n1 : (kd == 1) = false := by simpa using h1
              have HN := hide (show wn = wd + 1 from (by rw [HS.out]; unfold widS; rw [if_neg h1]))
              clear h1
              clear HS0 HS1
              go_wp2_with fail
              go_roundg (sy.length - (k + 1))
              case measure => rw [hu.out]; omega
              case rel => exact ⟨k + 1, hide rfl, by go_num, by rw [HWN.out, HN.out], hide ⟨hlt, rfl, by rw [HWN.out, HN.out]; omega, by rw [HWN.out, HN.out]; push_cast; omega⟩⟩
          · have hne : (d.layout.toList == []) = false := beq_eq_false_iff_ne.2 xn
            have hne2 : (!d.layout.toList == []) = true := by rw [hne]; rfl
            have HS := hide (HS1.out hk0 (by rw [HLZ.out, zn.out]; simp))
            by_cases h1 : kd = 1
            · subst h1
              have HN := hide (show wn = wd + 1 + (t.size : Int) from HS.out)
              clear HS0 HS1
              go_wp2_with fail
              go_roundg (sy.length - (k + 1))
              case measure => rw [hu.out]; omega
              case rel => exact ⟨k + 1, hide rfl, by go_num, by rw [HWN.out, HN.out], hide ⟨hlt, rfl, by rw [HWN.out, HN.out]; omega, by rw [HWN.out, HN.out]; push_cast; omega⟩⟩
            · have n1 : (kd == 1) = false := by simpa using h1
              have HN := hide (show wn = wd + 1 + 1 from (by rw [HS.out]; unfold widS; rw [if_neg h1]))
              clear h1
              clear HS0 HS1
              go_wp2_with fail
              go_roundg (sy.length - (k + 1))
              case measure => rw [hu.out]; omega
              case rel => exact ⟨k + 1, hide rfl, by go_num, by rw [HWN.out, HN.out], hide ⟨hlt, rfl, by rw [HWN.out, HN.out]; omega, by rw [HWN.out, HN.out]; push_cast; omega⟩⟩
    · have hlti : ¬ (k : Int) < (sy.length : Int) := by omega
      have HKE := hide (show sizL d lx (sy.take k) = res by rw [List.take_of_length_le (by omega)]; exact HRES.out)
      go_wp2_with fail
      go_ret
      exact ⟨by rw [HKE.out]; rfl, HB0.out⟩
end Go.Proofs.Ytalicfpcmcbdbaa
