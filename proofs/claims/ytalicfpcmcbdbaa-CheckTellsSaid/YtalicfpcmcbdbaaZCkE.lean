/- The reference: kind. -/
import Derived.Test.YtalicfpcmcbdbaaZCkB
import Derived.Test.YtalicfpcmcbdbaaZRefS
import Derived.BigQuiet
set_option linter.unusedVariables false
set_option linter.unusedSimpArgs false
set_option linter.unnecessarySimpa false
set_option linter.deprecated false
namespace Go.Proofs.Ytalicfpcmcbdbaa
open Go.RowKit

set_option maxHeartbeats 800000 in
set_option maxRecDepth 100000 in
theorem rkind_any (d : Df) (a2 : Option Addr) (c2 : Nat) (a3 : Option Addr) (c3 : Nat) (a4 : Option Addr) (c4 : Nat) (a5 : Option Addr) (c5 : Nat) (a6 : Option Addr) (c6 : Nat) (p : Pd) (ap : Option Addr) (cp : Nat) (w : World) (hd : RD d ⟨a2, c2, a3, c3, a4, c4, a5, c5, a6, c6⟩ w) (hr : Row SyAt 8 p.syms ap w) (hpl : p.syms.length ≤ 10000) : Calls Try.prog 93 #[.agg #[.string d.start, .string d.layout, .slice a2 d.prods.length c2, .slice a3 d.chains.length c3, .slice a4 d.follows.length c4, .slice a5 d.rejects.length c5, .slice a6 d.boxes.length c6], .agg #[.bool p.lex, .string p.sort, .string p.cons, .bool p.bracket, .slice ap p.syms.length cp]] w fun e w' => e = .returned (.bool (kindB d p)) ∧ Below w.heap.size w w' := by
  have HD := hide hd
  have HR := hide hr
  obtain ⟨res, hres⟩ : ∃ r, kindB d p = r := ⟨_, rfl⟩
  rw [hres]
  have HRES := hide hres
  obtain ⟨lx, so, cn, br, sy⟩ := p
  have hpl : sy.length ≤ 10000 := hpl
  clear hr hres hd
  go_enter Try.func93, Try.ntmps93
  go_upto_region 1 with fail
  obtain ⟨kd, hkd⟩ : ∃ kd, w.heap.size = kd := ⟨_, rfl⟩
  obtain ⟨w0, h0⟩ : ∃ w0, w.alloc (.cells #[.string d.start, .string d.layout, .slice a2 d.prods.length c2, .slice a3 d.chains.length c3, .slice a4 d.follows.length c4, .slice a5 d.rejects.length c5, .slice a6 d.boxes.length c6] 28) = w0 := ⟨_, rfl⟩
  have HB0 := hide (show Below w.heap.size w w0 by rw [← h0]; exact NB.alloc (Below.refl _ _) _)
  have HDX0 := hide (show Blk w0 kd #[.string d.start, .string d.layout, .slice a2 d.prods.length c2, .slice a3 d.chains.length c3, .slice a4 d.follows.length c4, .slice a5 d.rejects.length c5, .slice a6 d.boxes.length c6] 28 by rw [← h0, ← hkd]; exact Blk.new w _ _)
  have hs0 : w0.heap.size = kd + 1 := by rw [← h0, ← hkd]; simp
  rw [h0, hkd]
  clear h0
  obtain ⟨w1, h1⟩ : ∃ w1, w0.alloc (.cells #[.bool lx, .string so, .string cn, .bool br, .slice ap sy.length cp] 38) = w1 := ⟨_, rfl⟩
  have hb1 : Below w0.heap.size w0 w1 := by rw [← h1]; exact NB.alloc (Below.refl _ _) _
  have HX0 := hide (show Blk w1 (kd + 1) #[.bool lx, .string so, .string cn, .bool br, .slice ap sy.length cp] 38 by rw [← h1, ← hs0]; exact Blk.new w0 _ _)
  have HDX := hide (HDX0.out.below hb1)
  replace HB0 := hide (below_next HB0.out hb1)
  replace HR := hide (HR.out.below SyAt.stable HB0.out)
  replace HD := hide (HD.out.below HB0.out)
  rw [h1]
  obtain ⟨kx, hkx⟩ : ∃ kx, kd + 1 = kx := ⟨_, rfl⟩
  rw [hkx] at HX0 ⊢
  clear h1 hkx hb1 HDX0 hs0 hkd
  go_wp2_with fail
  go_loopg [5] sy.length (fun u v5 wr => ∃ k : Nat, Hid (u = sy.length - k) ∧ v5 = .int .i64 (k : Int) ∧ Hid (k ≤ sy.length ∧ Below w1.heap.size w1 wr ∧ ∀ j (h : j < sy.length), j < k → kindS d lx sy[j] = false))
  case atStart => exact ⟨0, hide rfl, rfl, hide ⟨Nat.zero_le _, Below.refl _ _, fun _ _ h => absurd h (Nat.not_lt_zero _)⟩⟩
  case round =>
    obtain ⟨k, hu, rfl, hh⟩ := hrel
    have hkl := hh.out.1
    have HXR := hide (HX0.out.below hh.out.2.1)
    have x4 := HXR.out.cell 4
    have xl := HXR.out.lt
    by_cases hlt : k < sy.length
    · have hlti : (k : Int) < (sy.length : Int) := by omega
      obtain ⟨b, o, rfl, hb, hat⟩ := (HR.out.below SyAt.stable hh.out.2.1).get hlt
      have hx := hat k hlt
      have HNX := hide (fun (hf : kindS d lx sy[k] = false) => (show ∀ j (h : j < sy.length), j < k + 1 → kindS d lx sy[j] = false from fun j h hj => by
        by_cases e : j = k
        · subst e; exact hf
        · exact hh.out.2.2 j h (by omega)))
      have HHI := hide (fun (ht : kindS d lx sy[k] = true) => (show res = true by
        rw [← HRES.out]
        exact List.any_eq_true.2 ⟨sy[k], List.getElem_mem hlt, ht⟩))
      generalize sy[k] = x at hx HNX HHI
      clear hat
      obtain ⟨kd, t, st, nm, sp⟩ := x
      obtain ⟨e0, e1, e2, e3, e4, e5, e6, e7⟩ := hx.cells
      have HBR := hide hh.out.2.1
      clear hx hh
      go_upto_region 5 with fail
      obtain ⟨ks, hks⟩ : ∃ ks, wr.heap.size = ks := ⟨_, rfl⟩
      obtain ⟨w6, h6⟩ : ∃ w6, wr.alloc (.cells #[.int .i64 kd, .string t, .int .u64 (st.w0 : Int), .int .u64 (st.w1 : Int), .int .u64 (st.w2 : Int), .int .u64 (st.w3 : Int), .string nm, .string sp] 61) = w6 := ⟨_, rfl⟩
      have hb6 : Below wr.heap.size wr w6 := by rw [← h6]; exact NB.alloc (Below.refl _ _) _
      have HS6 := hide (show Blk w6 ks #[.int .i64 kd, .string t, .int .u64 (st.w0 : Int), .int .u64 (st.w1 : Int), .int .u64 (st.w2 : Int), .int .u64 (st.w3 : Int), .string nm, .string sp] 61 by rw [← h6, ← hks]; exact Blk.new wr _ _)
      have HB6 := hide (below_next HBR.out hb6)
      have HX6 := hide (HXR.out.below hb6)
      rw [h6, hks]
      clear h6 hks hb6 e0 e1 e2 e3 e4 e5 e6 e7 hb x4 xl
      have HBN := hide HB6.out
      have s0 := HS6.out.cell 0
      have s3 := HS6.out.cell 6
      have s4 := HS6.out.cell 7
      have sl := HS6.out.lt
      have x0 := HX6.out.cell 0
      have xl := HX6.out.lt
      have y0 := (HDX.out.below HB6.out).cell 0
      have y1 := (HDX.out.below HB6.out).cell 1
      have y2 := (HDX.out.below HB6.out).cell 2
      have y3 := (HDX.out.below HB6.out).cell 3
      have y4 := (HDX.out.below HB6.out).cell 4
      have y5 := (HDX.out.below HB6.out).cell 5
      have y6 := (HDX.out.below HB6.out).cell 6
      have yl := (HDX.out.below HB6.out).lt
      obtain ⟨lz, hlz⟩ : ∃ lz, lx = lz := ⟨_, rfl⟩
      rw [hlz] at x0
      have x0' : (HX6.out.cell 0) = (HX6.out.cell 0) := rfl
      clear x0'
      have HLZ := hide hlz
      have HX6 := hide (show Blk w6 kx #[.bool lz, .string so, .string cn, .bool br, .slice (some ⟨b, o, none⟩) sy.length cp] 38 by rw [← hlz]; exact HX6.out)
      clear hlz
      cases lz with
      | true =>
        rcases emp_or sp with ⟨bn, zn, yn, vn, xn⟩ | ⟨bn, zn, yn, vn, xn⟩
        · have s1a : (sp.toList == []) = true := by rw [xn]; rfl
          have s1b : (!sp.toList == []) = false := by rw [s1a]; rfl
          have ZSP := hide zn.out
          clear zn yn vn xn
          rcases emp_or nm with ⟨bn, zn, yn, vn, xn⟩ | ⟨bn, zn, yn, vn, xn⟩
          · have s2a : (nm.toList == []) = true := by rw [xn]; rfl
            have s2b : (!nm.toList == []) = false := by rw [s2a]; rfl
            have HN := hide (HNX.out (by unfold kindS; rw [HLZ.out, if_pos rfl, ZSP.out, zn.out]; rfl))
            go_wp2_with fail
            go_roundg (sy.length - (k + 1))
            case measure => rw [hu.out]; omega
            case rel => exact ⟨k + 1, hide rfl, by go_num, hide ⟨hlt, HBN.out, HN.out⟩⟩
          · have s2a : (nm.toList == []) = false := beq_eq_false_iff_ne.2 xn
            have s2b : (!nm.toList == []) = true := by rw [s2a]; rfl
            have HIL := hide (rIsLex_any d a2 c2 a3 c3 a4 c4 a5 c5 a6 c6 nm true w6 (HD.out.below HB6.out))
            obtain ⟨il, hil⟩ : ∃ il, isLex d.prods nm true = il := ⟨_, rfl⟩
            rw [hil] at HIL
            have HL2 := hide hil
            clear hil
            go_wp2_with fail
            refine HIL.out.mono ?_
            rintro e w7 ⟨rfl, hb7⟩
            have HBN := hide (below_next HB6.out hb7)
            replace s0 := (HS6.out.below hb7).cell 0
            replace s3 := (HS6.out.below hb7).cell 6
            replace s4 := (HS6.out.below hb7).cell 7
            replace sl := (HS6.out.below hb7).lt
            replace x0 := (HX6.out.below hb7).cell 0
            replace xl := (HX6.out.below hb7).lt
            cases il with
            | true =>
              have HN := hide (HNX.out (by unfold kindS; rw [HLZ.out, if_pos rfl, ZSP.out, HL2.out]; simp))
              go_wp2_with fail
              go_roundg (sy.length - (k + 1))
              case measure => rw [hu.out]; omega
              case rel => exact ⟨k + 1, hide rfl, by go_num, hide ⟨hlt, HBN.out, HN.out⟩⟩
            | false =>
              have HF := hide (HHI.out (by unfold kindS; rw [HLZ.out, if_pos rfl, zn.out, HL2.out]; simp))
              go_wp2_with fail
              go_ret
              exact ⟨by rw [HF.out]; rfl, below_next HB0.out HBN.out⟩
        · have s1a : (sp.toList == []) = false := beq_eq_false_iff_ne.2 xn
          have s1b : (!sp.toList == []) = true := by rw [s1a]; rfl
          have HF := hide (HHI.out (by unfold kindS; rw [HLZ.out, if_pos rfl, zn.out]; rfl))
          go_wp2_with fail
          go_ret
          exact ⟨by rw [HF.out]; rfl, below_next HB0.out HBN.out⟩
      | false =>
        by_cases h1 : kd = 1
        · have k1 : (kd != 1) = false := by rw [h1]; rfl
          have HN := hide (HNX.out (by unfold kindS; rw [HLZ.out, if_neg (by decide), decide_eq_true h1]; rfl))
          clear h1
          go_wp2_with fail
          go_roundg (sy.length - (k + 1))
          case measure => rw [hu.out]; omega
          case rel => exact ⟨k + 1, hide rfl, by go_num, hide ⟨hlt, HBN.out, HN.out⟩⟩
        · have k1 : (kd != 1) = true := by simpa using h1
          have HK1 := hide h1
          clear h1
          rcases emp_or nm with ⟨bn, zn, yn, vn, xn⟩ | ⟨bn, zn, yn, vn, xn⟩
          · have s2a : (nm.toList == []) = true := by rw [xn]; rfl
            have s2b : (!nm.toList == []) = false := by rw [s2a]; rfl
            have HF := hide (HHI.out (by unfold kindS; rw [HLZ.out, if_neg (by decide), decide_eq_false HK1.out, zn.out]; rfl))
            go_wp2_with fail
            go_ret
            exact ⟨by rw [HF.out]; rfl, below_next HB0.out HBN.out⟩
          · have s2a : (nm.toList == []) = false := beq_eq_false_iff_ne.2 xn
            have s2b : (!nm.toList == []) = true := by rw [s2a]; rfl
            by_cases h2 : nm = d.layout
            · have k2 : (nm.toList == d.layout.toList) = true := by rw [h2]; simp
              have HF := hide (HHI.out (by unfold kindS; rw [HLZ.out, if_neg (by decide), decide_eq_false HK1.out, decide_eq_true h2]; simp))
              clear h2
              go_wp2_with fail
              go_ret
              exact ⟨by rw [HF.out]; rfl, below_next HB0.out HBN.out⟩
            · have k2 : (nm.toList == d.layout.toList) = false := beq_eq_false_iff_ne.2 (fun h => h2 ((toList_eq_iff _ _).1 h))
              have HN := hide (HNX.out (by unfold kindS; rw [HLZ.out, if_neg (by decide), decide_eq_false HK1.out, zn.out, decide_eq_false h2]; rfl))
              clear h2
              go_wp2_with fail
              go_roundg (sy.length - (k + 1))
              case measure => rw [hu.out]; omega
              case rel => exact ⟨k + 1, hide rfl, by go_num, hide ⟨hlt, HBN.out, HN.out⟩⟩
    · have hlti : ¬ (k : Int) < (sy.length : Int) := by omega
      have HF := hide (show res = false by
        rw [← HRES.out]
        unfold kindB
        rw [Bool.eq_false_iff]
        intro h
        obtain ⟨x, hx, ht⟩ := List.any_eq_true.1 h
        obtain ⟨j, hj, rfl⟩ := List.mem_iff_getElem.1 hx
        rw [hh.out.2.2 j hj (by have : j < sy.length := hj; omega)] at ht
        cases ht)
      have HBN := hide hh.out.2.1
      go_wp2_with fail
      go_ret
      exact ⟨by rw [HF.out]; rfl, below_next HB0.out HBN.out⟩
end Go.Proofs.Ytalicfpcmcbdbaa
