/- The walk of CheckLists. -/
import Derived.Test.YtalicfpcmcbdbaaRefV
import Derived.Test.YtalicfpcmcbdbaaLWhole
set_option linter.unusedVariables false
set_option linter.unusedSimpArgs false
set_option linter.unnecessarySimpa false
set_option linter.deprecated false
namespace Go.Proofs.Ytalicfpcmcbdbaa
open Go.RowKit

set_option maxHeartbeats 1600000 in
set_option maxRecDepth 100000 in
theorem lawLists_any (d : Df) (a2 : Option Addr) (c2 : Nat) (a3 : Option Addr) (c3 : Nat) (a4 : Option Addr) (c4 : Nat) (a5 : Option Addr) (c5 : Nat) (a6 : Option Addr) (c6 : Nat) (s : ByteArray) (w : World) (hd : RD d ⟨a2, c2, a3, c3, a4, c4, a5, c5, a6, c6⟩ w) (hs : s.size ≤ 140737488351232) : Calls Try.prog 10 #[.agg #[.string d.start, .string d.layout, .slice a2 d.prods.length c2, .slice a3 d.chains.length c3, .slice a4 d.follows.length c4, .slice a5 d.rejects.length c5, .slice a6 d.boxes.length c6], .string s] w fun e w' => e = .returned (.bool true) ∧ Below w.heap.size w w' := by
  have HSS := hide (show short s from hs)
  clear hs
  have HB0 := hide ((Below.refl w.heap.size w).alloc (Nat.le_refl _) (.cells #[.string d.start, .string d.layout, .slice a2 d.prods.length c2, .slice a3 d.chains.length c3, .slice a4 d.follows.length c4, .slice a5 d.rejects.length c5, .slice a6 d.boxes.length c6] 28))
  have HX0 := hide (Blk.new w #[.string d.start, .string d.layout, .slice a2 d.prods.length c2, .slice a3 d.chains.length c3, .slice a4 d.follows.length c4, .slice a5 d.rejects.length c5, .slice a6 d.boxes.length c6] 28)
  have HD := hide (hd.below HB0.out)
  have hl2 := hd.p.1
  clear hd
  go_enter Try.func10, Try.ntmps10
  go_upto_region 1 with fail
  obtain ⟨kx, hkx⟩ : ∃ kx, w.heap.size = kx := ⟨_, rfl⟩
  obtain ⟨w0, h1⟩ : ∃ w1, w.alloc (.cells #[.string d.start, .string d.layout, .slice a2 d.prods.length c2, .slice a3 d.chains.length c3, .slice a4 d.follows.length c4, .slice a5 d.rejects.length c5, .slice a6 d.boxes.length c6] 28) = w1 := ⟨_, rfl⟩
  rw [h1] at HD HB0 HX0 ⊢
  rw [hkx] at HX0 ⊢
  clear h1 hkx
  have x0 := HX0.out.cell 0
  have x1 := HX0.out.cell 1
  have x2 := HX0.out.cell 2
  have x3 := HX0.out.cell 3
  have x4 := HX0.out.cell 4
  have x5 := HX0.out.cell 5
  have x6 := HX0.out.cell 6
  have xl := HX0.out.lt
  have HHV := hide (heavy_any d a2 c2 a3 c3 a4 c4 a5 c5 a6 c6 w0 HD.out)
  go_wp2_with fail
  refine HHV.out.mono ?_
  rintro e w1 ⟨⟨hv, rfl, hsm⟩, hb1⟩
  have HB1 := hide (below_next HB0.out hb1)
  have HX1 := hide (HX0.out.below hb1)
  have HD1 := hide (HD.out.below hb1)
  clear HX0 HD HHV HB0 hb1 x0 x1 x2 x3 x4 x5 x6 xl
  clear w0
  cases hv with
  | true =>
    have HC := hide (alive_any w1)
    clear hsm
    go_wp2_with fail
    refine HC.out.mono ?_
    rintro e w2 ⟨rfl, hb2⟩
    have HB2 := hide (below_next HB1.out hb2)
    clear hb2
    go_wp2_with fail
    go_ret
    exact ⟨rfl, HB2.out⟩
  | false =>
    have HSM := hide (tot_small (hsm rfl))
    clear hsm
    obtain ⟨LS, hLS⟩ : ∃ l, sortsL d.prods = l := ⟨_, rfl⟩
    obtain ⟨LL, hLL⟩ : ∃ l, lexL d = l := ⟨_, rfl⟩
    obtain ⟨LU, hLU⟩ : ∃ l, usesL d s = l := ⟨_, rfl⟩
    have HLS := hide hLS
    have HLL := hide hLL
    have HLU := hide hLU
    have HNLS := hide (show LS.length ≤ 100000 by have := sortsL_len d.prods; have := HSM.out.pl; rw [hLS] at *; omega)
    have HNLL := hide (show LL.length ≤ 100000 by have := lexL_len d; have := HSM.out.pl; rw [hLL] at *; omega)
    have HNLU := hide (show LU.length ≤ 100000 by have := usesL_len d s; have := HSM.out.pl; rw [hLU] at *; omega)
    clear hLS hLL hLU
    have HS1 := hide (fun (W : World) (h : Below w1.heap.size w1 W) => (show (Hid (Below w1.heap.size w1 W) ∧ kx < W.heap.size ∧ W.cell? ⟨kx, 0, none⟩ = some (.string d.start) ∧ W.cell? ⟨kx, 1, none⟩ = some (.string d.layout) ∧ W.cell? ⟨kx, 2, none⟩ = some (.slice a2 d.prods.length c2) ∧ W.cell? ⟨kx, 3, none⟩ = some (.slice a3 d.chains.length c3) ∧ W.cell? ⟨kx, 4, none⟩ = some (.slice a4 d.follows.length c4) ∧ W.cell? ⟨kx, 5, none⟩ = some (.slice a5 d.rejects.length c5) ∧ W.cell? ⟨kx, 6, none⟩ = some (.slice a6 d.boxes.length c6)) from
      have q := HX1.out.below h
      ⟨hide h, q.lt, q.cell 0, q.cell 1, q.cell 2, q.cell 3, q.cell 4, q.cell 5, q.cell 6⟩))
    have HSO1 := hide (fun (W : World) (h : Hid (Below w1.heap.size w1 W)) => (show Calls Try.prog 22 #[.agg #[.string d.start, .string d.layout, .slice a2 d.prods.length c2, .slice a3 d.chains.length c3, .slice a4 d.follows.length c4, .slice a5 d.rejects.length c5, .slice a6 d.boxes.length c6]] W fun e W' => ∃ a c, e = .returned (.slice a LS.length c) ∧ Hid (Row StrAt 1 LS a W' ∧ Below W.heap.size W W') ∧ (fun W => (Hid (Below w1.heap.size w1 W) ∧ kx < W.heap.size ∧ W.cell? ⟨kx, 0, none⟩ = some (.string d.start) ∧ W.cell? ⟨kx, 1, none⟩ = some (.string d.layout) ∧ W.cell? ⟨kx, 2, none⟩ = some (.slice a2 d.prods.length c2) ∧ W.cell? ⟨kx, 3, none⟩ = some (.slice a3 d.chains.length c3) ∧ W.cell? ⟨kx, 4, none⟩ = some (.slice a4 d.follows.length c4) ∧ W.cell? ⟨kx, 5, none⟩ = some (.slice a5 d.rejects.length c5) ∧ W.cell? ⟨kx, 6, none⟩ = some (.slice a6 d.boxes.length c6))) W' from (sorts_any d a2 c2 a3 c3 a4 c4 a5 c5 a6 c6 W (HD1.out.below h.out) HSM.out.pl5).mono (fun e W' hh => by
      obtain ⟨v, rfl, ho, hb⟩ := hh
      rw [HLS.out] at ho
      obtain ⟨a, c, rfl, hr⟩ := ho.row (by have := HNLS.out; omega)
      exact ⟨a, c, rfl, hide ⟨hr, hb⟩, HS1.out W' (below_next h.out hb)⟩)))
    have HRS1 := hide (fun (W : World) (h : Hid (Below w1.heap.size w1 W)) => (show Calls Try.prog 27 #[.agg #[.string d.start, .string d.layout, .slice a2 d.prods.length c2, .slice a3 d.chains.length c3, .slice a4 d.follows.length c4, .slice a5 d.rejects.length c5, .slice a6 d.boxes.length c6]] W fun e W' => ∃ a c, e = .returned (.slice a LS.length c) ∧ Hid (Row StrAt 1 LS a W' ∧ Below W.heap.size W W') ∧ (fun W => (Hid (Below w1.heap.size w1 W) ∧ kx < W.heap.size ∧ W.cell? ⟨kx, 0, none⟩ = some (.string d.start) ∧ W.cell? ⟨kx, 1, none⟩ = some (.string d.layout) ∧ W.cell? ⟨kx, 2, none⟩ = some (.slice a2 d.prods.length c2) ∧ W.cell? ⟨kx, 3, none⟩ = some (.slice a3 d.chains.length c3) ∧ W.cell? ⟨kx, 4, none⟩ = some (.slice a4 d.follows.length c4) ∧ W.cell? ⟨kx, 5, none⟩ = some (.slice a5 d.rejects.length c5) ∧ W.cell? ⟨kx, 6, none⟩ = some (.slice a6 d.boxes.length c6))) W' from (rSorts_any d a2 c2 a3 c3 a4 c4 a5 c5 a6 c6 W (HD1.out.below h.out) HSM.out.pl5).mono (fun e W' hh => by
      obtain ⟨v, rfl, ho, hb⟩ := hh
      rw [HLS.out] at ho
      obtain ⟨a, c, rfl, hr⟩ := ho.row (by have := HNLS.out; omega)
      exact ⟨a, c, rfl, hide ⟨hr, hb⟩, HS1.out W' (below_next h.out hb)⟩)))
    have HC0 := hide (sorts_any d a2 c2 a3 c3 a4 c4 a5 c5 a6 c6 w1 HD1.out HSM.out.pl5)
    have x0 := HX1.out.cell 0
    have x1 := HX1.out.cell 1
    have x2 := HX1.out.cell 2
    have x3 := HX1.out.cell 3
    have x4 := HX1.out.cell 4
    have x5 := HX1.out.cell 5
    have x6 := HX1.out.cell 6
    have xl := HX1.out.lt
    go_wp2_with fail
    refine HC0.out.mono ?_
    rintro e w2 ⟨v, rfl, ho, hb2⟩
    rw [HLS.out] at ho
    have hown := ho.1
    obtain ⟨a9, c9, rfl, hr⟩ := ho.row (by have := HNLS.out; omega)
    have HR9 := hide hr
    have HOWN := hide hown
    have HX2 := hide (HX1.out.below hb2)
    have HD2 := hide (HD1.out.below hb2)
    have HB12 := hide hb2
    clear hr hown ho hb2 x0 x1 x2 x3 x4 x5 x6 xl HC0
    have HS2 := hide (fun (W : World) (h : Below w2.heap.size w2 W) => (show (Hid (Below w2.heap.size w2 W) ∧ kx < W.heap.size ∧ W.cell? ⟨kx, 0, none⟩ = some (.string d.start) ∧ W.cell? ⟨kx, 1, none⟩ = some (.string d.layout) ∧ W.cell? ⟨kx, 2, none⟩ = some (.slice a2 d.prods.length c2) ∧ W.cell? ⟨kx, 3, none⟩ = some (.slice a3 d.chains.length c3) ∧ W.cell? ⟨kx, 4, none⟩ = some (.slice a4 d.follows.length c4) ∧ W.cell? ⟨kx, 5, none⟩ = some (.slice a5 d.rejects.length c5) ∧ W.cell? ⟨kx, 6, none⟩ = some (.slice a6 d.boxes.length c6)) from
      have q := HX2.out.below h
      ⟨hide h, q.lt, q.cell 0, q.cell 1, q.cell 2, q.cell 3, q.cell 4, q.cell 5, q.cell 6⟩))
    have H27 := hide (fun (W : World) (h : Hid (Below w2.heap.size w2 W)) => (show Calls Try.prog 27 #[.agg #[.string d.start, .string d.layout, .slice a2 d.prods.length c2, .slice a3 d.chains.length c3, .slice a4 d.follows.length c4, .slice a5 d.rejects.length c5, .slice a6 d.boxes.length c6]] W fun e W' => ∃ a c, e = .returned (.slice a LS.length c) ∧ Hid (Row StrAt 1 LS a W' ∧ Below W.heap.size W W') ∧ (fun W => (Hid (Below w2.heap.size w2 W) ∧ kx < W.heap.size ∧ W.cell? ⟨kx, 0, none⟩ = some (.string d.start) ∧ W.cell? ⟨kx, 1, none⟩ = some (.string d.layout) ∧ W.cell? ⟨kx, 2, none⟩ = some (.slice a2 d.prods.length c2) ∧ W.cell? ⟨kx, 3, none⟩ = some (.slice a3 d.chains.length c3) ∧ W.cell? ⟨kx, 4, none⟩ = some (.slice a4 d.follows.length c4) ∧ W.cell? ⟨kx, 5, none⟩ = some (.slice a5 d.rejects.length c5) ∧ W.cell? ⟨kx, 6, none⟩ = some (.slice a6 d.boxes.length c6))) W' from (rSorts_any d a2 c2 a3 c3 a4 c4 a5 c5 a6 c6 W (HD2.out.below h.out) HSM.out.pl5).mono (fun e W' hh => by
      obtain ⟨v, rfl, ho, hb⟩ := hh
      rw [HLS.out] at ho
      obtain ⟨a, c, rfl, hr⟩ := ho.row (by have := HNLS.out; omega)
      exact ⟨a, c, rfl, hide ⟨hr, hb⟩, HS2.out W' (below_next h.out hb)⟩)))
    have H25 := hide (fun (W : World) (h : Hid (Below w2.heap.size w2 W)) => (show Calls Try.prog 25 #[.agg #[.string d.start, .string d.layout, .slice a2 d.prods.length c2, .slice a3 d.chains.length c3, .slice a4 d.follows.length c4, .slice a5 d.rejects.length c5, .slice a6 d.boxes.length c6]] W fun e W' => ∃ a c, e = .returned (.slice a LL.length c) ∧ Hid (Row StrAt 1 LL a W' ∧ Below W.heap.size W W') ∧ (fun W => (Hid (Below w2.heap.size w2 W) ∧ kx < W.heap.size ∧ W.cell? ⟨kx, 0, none⟩ = some (.string d.start) ∧ W.cell? ⟨kx, 1, none⟩ = some (.string d.layout) ∧ W.cell? ⟨kx, 2, none⟩ = some (.slice a2 d.prods.length c2) ∧ W.cell? ⟨kx, 3, none⟩ = some (.slice a3 d.chains.length c3) ∧ W.cell? ⟨kx, 4, none⟩ = some (.slice a4 d.follows.length c4) ∧ W.cell? ⟨kx, 5, none⟩ = some (.slice a5 d.rejects.length c5) ∧ W.cell? ⟨kx, 6, none⟩ = some (.slice a6 d.boxes.length c6))) W' from (Lexical_any d a2 c2 a3 c3 a4 c4 a5 c5 a6 c6 W (HD2.out.below h.out) HSM.out.pl5).mono (fun e W' hh => by
      obtain ⟨v, rfl, ho, hb⟩ := hh
      rw [HLL.out] at ho
      obtain ⟨a, c, rfl, hr⟩ := ho.row (by have := HNLL.out; omega)
      exact ⟨a, c, rfl, hide ⟨hr, hb⟩, HS2.out W' (below_next h.out hb)⟩)))
    have H28 := hide (fun (W : World) (h : Hid (Below w2.heap.size w2 W)) => (show Calls Try.prog 28 #[.agg #[.string d.start, .string d.layout, .slice a2 d.prods.length c2, .slice a3 d.chains.length c3, .slice a4 d.follows.length c4, .slice a5 d.rejects.length c5, .slice a6 d.boxes.length c6]] W fun e W' => ∃ a c, e = .returned (.slice a LL.length c) ∧ Hid (Row StrAt 1 LL a W' ∧ Below W.heap.size W W') ∧ (fun W => (Hid (Below w2.heap.size w2 W) ∧ kx < W.heap.size ∧ W.cell? ⟨kx, 0, none⟩ = some (.string d.start) ∧ W.cell? ⟨kx, 1, none⟩ = some (.string d.layout) ∧ W.cell? ⟨kx, 2, none⟩ = some (.slice a2 d.prods.length c2) ∧ W.cell? ⟨kx, 3, none⟩ = some (.slice a3 d.chains.length c3) ∧ W.cell? ⟨kx, 4, none⟩ = some (.slice a4 d.follows.length c4) ∧ W.cell? ⟨kx, 5, none⟩ = some (.slice a5 d.rejects.length c5) ∧ W.cell? ⟨kx, 6, none⟩ = some (.slice a6 d.boxes.length c6))) W' from (rLexical_any d a2 c2 a3 c3 a4 c4 a5 c5 a6 c6 W (HD2.out.below h.out) HSM.out.pl5).mono (fun e W' hh => by
      obtain ⟨v, rfl, ho, hb⟩ := hh
      rw [HLL.out] at ho
      obtain ⟨a, c, rfl, hr⟩ := ho.row (by have := HNLL.out; omega)
      exact ⟨a, c, rfl, hide ⟨hr, hb⟩, HS2.out W' (below_next h.out hb)⟩)))
    have H23 := hide (fun (W : World) (h : Hid (Below w2.heap.size w2 W)) => (show Calls Try.prog 23 #[.agg #[.string d.start, .string d.layout, .slice a2 d.prods.length c2, .slice a3 d.chains.length c3, .slice a4 d.follows.length c4, .slice a5 d.rejects.length c5, .slice a6 d.boxes.length c6], .string s] W fun e W' => ∃ a c, e = .returned (.slice a LU.length c) ∧ Hid (Row StrAt 1 LU a W' ∧ Below W.heap.size W W') ∧ (fun W => (Hid (Below w2.heap.size w2 W) ∧ kx < W.heap.size ∧ W.cell? ⟨kx, 0, none⟩ = some (.string d.start) ∧ W.cell? ⟨kx, 1, none⟩ = some (.string d.layout) ∧ W.cell? ⟨kx, 2, none⟩ = some (.slice a2 d.prods.length c2) ∧ W.cell? ⟨kx, 3, none⟩ = some (.slice a3 d.chains.length c3) ∧ W.cell? ⟨kx, 4, none⟩ = some (.slice a4 d.follows.length c4) ∧ W.cell? ⟨kx, 5, none⟩ = some (.slice a5 d.rejects.length c5) ∧ W.cell? ⟨kx, 6, none⟩ = some (.slice a6 d.boxes.length c6))) W' from (uses_any d a2 c2 a3 c3 a4 c4 a5 c5 a6 c6 s W (HD2.out.below h.out) HSS.out HSM.out.pl5 HSM.out.nl HSM.out.sl5).mono (fun e W' hh => by
      obtain ⟨v, rfl, ho, hb⟩ := hh
      rw [HLU.out] at ho
      obtain ⟨a, c, rfl, hr⟩ := ho.row (by have := HNLU.out; omega)
      exact ⟨a, c, rfl, hide ⟨hr, hb⟩, HS2.out W' (below_next h.out hb)⟩)))
    have H29 := hide (fun (W : World) (h : Hid (Below w2.heap.size w2 W)) => (show Calls Try.prog 29 #[.agg #[.string d.start, .string d.layout, .slice a2 d.prods.length c2, .slice a3 d.chains.length c3, .slice a4 d.follows.length c4, .slice a5 d.rejects.length c5, .slice a6 d.boxes.length c6], .string s] W fun e W' => ∃ a c, e = .returned (.slice a LU.length c) ∧ Hid (Row StrAt 1 LU a W' ∧ Below W.heap.size W W') ∧ (fun W => (Hid (Below w2.heap.size w2 W) ∧ kx < W.heap.size ∧ W.cell? ⟨kx, 0, none⟩ = some (.string d.start) ∧ W.cell? ⟨kx, 1, none⟩ = some (.string d.layout) ∧ W.cell? ⟨kx, 2, none⟩ = some (.slice a2 d.prods.length c2) ∧ W.cell? ⟨kx, 3, none⟩ = some (.slice a3 d.chains.length c3) ∧ W.cell? ⟨kx, 4, none⟩ = some (.slice a4 d.follows.length c4) ∧ W.cell? ⟨kx, 5, none⟩ = some (.slice a5 d.rejects.length c5) ∧ W.cell? ⟨kx, 6, none⟩ = some (.slice a6 d.boxes.length c6))) W' from (rUses_any d a2 c2 a3 c3 a4 c4 a5 c5 a6 c6 s W (HD2.out.below h.out) HSS.out HSM.out.pl5 HSM.out.nl).mono (fun e W' hh => by
      obtain ⟨v, rfl, ho, hb⟩ := hh
      rw [HLU.out] at ho
      obtain ⟨a, c, rfl, hr⟩ := ho.row (by have := HNLU.out; omega)
      exact ⟨a, c, rfl, hide ⟨hr, hb⟩, HS2.out W' (below_next h.out hb)⟩)))
    have HSN := hide (fun (l : List ByteArray) (a b : Option Addr) (c e : Nat) (W : World) (h : Hid (Below w2.heap.size w2 W)) (ha : Row StrAt 1 l a W) (hb : Row StrAt 1 l b W) => (show Calls Try.prog 26 #[.slice a l.length c, .slice b l.length e] W fun e W' => e = .returned (.bool true) ∧ (fun W => (Hid (Below w2.heap.size w2 W) ∧ kx < W.heap.size ∧ W.cell? ⟨kx, 0, none⟩ = some (.string d.start) ∧ W.cell? ⟨kx, 1, none⟩ = some (.string d.layout) ∧ W.cell? ⟨kx, 2, none⟩ = some (.slice a2 d.prods.length c2) ∧ W.cell? ⟨kx, 3, none⟩ = some (.slice a3 d.chains.length c3) ∧ W.cell? ⟨kx, 4, none⟩ = some (.slice a4 d.follows.length c4) ∧ W.cell? ⟨kx, 5, none⟩ = some (.slice a5 d.rejects.length c5) ∧ W.cell? ⟨kx, 6, none⟩ = some (.slice a6 d.boxes.length c6))) W' from (sameNames_eq l a b c e W ha hb).mono (fun e W' hh => ⟨hh.1, HS2.out W' (below_next h.out hh.2)⟩)))
    go_upto_region 4 with fail
    have hs0 := HS2.out _ (Below.drew (Below.refl w2.heap.size w2))
    go_region_held3 (fun W => (Hid (Below w2.heap.size w2 W) ∧ kx < W.heap.size ∧ W.cell? ⟨kx, 0, none⟩ = some (.string d.start) ∧ W.cell? ⟨kx, 1, none⟩ = some (.string d.layout) ∧ W.cell? ⟨kx, 2, none⟩ = some (.slice a2 d.prods.length c2) ∧ W.cell? ⟨kx, 3, none⟩ = some (.slice a3 d.chains.length c3) ∧ W.cell? ⟨kx, 4, none⟩ = some (.slice a4 d.follows.length c4) ∧ W.cell? ⟨kx, 5, none⟩ = some (.slice a5 d.rejects.length c5) ∧ W.cell? ⟨kx, 6, none⟩ = some (.slice a6 d.boxes.length c6))) (first | exact hs0 | assumption)
      (first
        | (go_at_call 27; refine (H27.out _ (And.left (by assumption))).mono ?_; rintro e w27 ⟨a27, c27, rfl, hr27, hs27⟩)
        | (go_at_call 25; refine (H25.out _ (And.left (by assumption))).mono ?_; rintro e w25 ⟨a25, c25, rfl, hr25, hs25⟩)
        | (go_at_call 28; refine (H28.out _ (And.left (by assumption))).mono ?_; rintro e w28 ⟨a28, c28, rfl, hr28, hs28⟩)
        | (go_at_call 23; refine (H23.out _ (And.left (by assumption))).mono ?_; rintro e w23 ⟨a23, c23, rfl, hr23, hs23⟩)
        | (go_at_call 29; refine (H29.out _ (And.left (by assumption))).mono ?_; rintro e w29 ⟨a29, c29, rfl, hr29, hs29⟩)
        | (go_at_call 26; with_reducible refine (HSN.out LU a23 a29 c23 c29 w29 (And.left hs29) (hr23.out.1.below StrAt.stable hr29.out.2) hr29.out.1).mono ?_; rintro e w36 ⟨rfl, hs36⟩)
        | (go_at_call 26; with_reducible refine (HSN.out LL a25 a28 c25 c28 w28 (And.left hs28) (hr25.out.1.below StrAt.stable hr28.out.2) hr28.out.1).mono ?_; rintro e w35 ⟨rfl, hs35⟩)
        | (go_at_call 26; with_reducible refine (HSN.out LS a9 a27 c9 c27 w27 (And.left hs27) (HR9.out.below StrAt.stable (And.left hs27).out) hr27.out.1).mono ?_; rintro e w34 ⟨rfl, hs34⟩))
    have HB136 := hide (below_next HB12.out (And.left hs36).out)
    have HG := hide (show LS ≠ [] → ∃ g cur, a9 = some ⟨g, 0, none⟩ ∧ w1.heap.size ≤ g ∧ Blk w36 g cur 9 ∧ LS.length ≤ cur.size from fun hne => by
      rcases HOWN.out.2 with ⟨h1, h0⟩ | ⟨g, cap, cur, h1, h2, h3, h4, h5, h6, h7⟩
      · exact absurd (List.eq_nil_of_length_eq_zero h0) hne
      · injection h1 with h1 _ _
        have hb2 : Blk w2 g cur 9 := h3
        exact ⟨g, cur, h1, h2, hb2.below (And.left hs36).out, by rw [h6]; omega⟩)
    have hln9 := HR9.out.1
    clear hs0 hs36 hs35 hs34 hr23 hr25 hr27 hr28 hr29 hs23 hs25 hs27 hs28 hs29 HSN H27 H25 H28 H23 H29 HS2 HR9 HOWN HX2 HD2 HB12
    clear w23 w25 w27 w28 w29 w34 w35
    go_wp2_with fail
    go_loopg [6] LS.length (fun u v6 wr => ∃ k : Nat, Hid (u = LS.length - k) ∧ v6 = .int .i64 (k : Int) ∧ Hid (k ≤ LS.length ∧ Below w1.heap.size w1 wr ∧ (LS ≠ [] → ∃ g cur, a9 = some ⟨g, 0, none⟩ ∧ w1.heap.size ≤ g ∧ Blk wr g cur 9 ∧ LS.length ≤ cur.size)))
    case atStart => exact ⟨0, hide rfl, rfl, hide ⟨Nat.zero_le _, HB136.out, HG.out⟩⟩
    case round =>
      obtain ⟨k, hu, rfl, hh⟩ := hrel
      have hkl := hh.out.1
      by_cases hlt : k < LS.length
      · have hlti : (k : Int) < (LS.length : Int) := by omega
        obtain ⟨g, cur, hg9, hgb, hgk, hgs⟩ := hh.out.2.2 (by rintro rfl; simp at hlt)
        subst hg9
        have HGB := hide hgb
        have HGK := hide hgk
        have HGS := hide hgs
        have fi : wr.cell? ⟨g, k, none⟩ = some (cur[k]'(by omega)) := by rw [hgk.cell k, Array.getElem?_eq_getElem (by omega)]
        have ff := hgk.free k
        have gl := hgk.lt
        generalize cur[k]'(by omega) = old at fi
        clear hgb hgk hgs
        go_wp2_with fail
        go_roundg (LS.length - (k + 1))
        case measure => rw [hu.out]; omega
        case rel => exact ⟨k + 1, hide rfl, by go_num, hide ⟨hlt, hh.out.2.1.setCell (by have := HGB.out; simp only; omega) _, fun _ => ⟨g, _, rfl, HGB.out, HGK.out.set k _, by simpa using HGS.out⟩⟩⟩
      · have hlti : ¬ (k : Int) < (LS.length : Int) := by omega
        have HBW := hide hh.out.2.1
        clear hh hu
        obtain ⟨cv, hcv⟩ : ∃ c, consIdx d.prods s = c := ⟨_, rfl⟩
        have HAL := hide (fun (W : World) (h : Hid (Below w1.heap.size w1 W)) => (show Calls Try.prog 12 #[] W fun e W' => e = .returned (.bool true) ∧ (fun W => (Hid (Below w1.heap.size w1 W) ∧ kx < W.heap.size ∧ W.cell? ⟨kx, 0, none⟩ = some (.string d.start) ∧ W.cell? ⟨kx, 1, none⟩ = some (.string d.layout) ∧ W.cell? ⟨kx, 2, none⟩ = some (.slice a2 d.prods.length c2) ∧ W.cell? ⟨kx, 3, none⟩ = some (.slice a3 d.chains.length c3) ∧ W.cell? ⟨kx, 4, none⟩ = some (.slice a4 d.follows.length c4) ∧ W.cell? ⟨kx, 5, none⟩ = some (.slice a5 d.rejects.length c5) ∧ W.cell? ⟨kx, 6, none⟩ = some (.slice a6 d.boxes.length c6))) W' from (alive_any W).mono (fun e W' hh => ⟨hh.1, HS1.out W' (below_next h.out hh.2)⟩)))
        have H21 := hide (fun (W : World) (h : Hid (Below w1.heap.size w1 W)) => (show Calls Try.prog 21 #[.agg #[.string d.start, .string d.layout, .slice a2 d.prods.length c2, .slice a3 d.chains.length c3, .slice a4 d.follows.length c4, .slice a5 d.rejects.length c5, .slice a6 d.boxes.length c6], .string s] W fun e W' => e = .returned (.int .i64 cv) ∧ (fun W => (Hid (Below w1.heap.size w1 W) ∧ kx < W.heap.size ∧ W.cell? ⟨kx, 0, none⟩ = some (.string d.start) ∧ W.cell? ⟨kx, 1, none⟩ = some (.string d.layout) ∧ W.cell? ⟨kx, 2, none⟩ = some (.slice a2 d.prods.length c2) ∧ W.cell? ⟨kx, 3, none⟩ = some (.slice a3 d.chains.length c3) ∧ W.cell? ⟨kx, 4, none⟩ = some (.slice a4 d.follows.length c4) ∧ W.cell? ⟨kx, 5, none⟩ = some (.slice a5 d.rejects.length c5) ∧ W.cell? ⟨kx, 6, none⟩ = some (.slice a6 d.boxes.length c6))) W' from (Cons_at d a2 c2 a3 c3 a4 c4 a5 c5 a6 c6 s W (HD1.out.below h.out).p).mono (fun e W' hh => ⟨by rw [← hcv]; exact hh.1, HS1.out W' (below_next h.out hh.2)⟩)))
        have H30 := hide (fun (W : World) (h : Hid (Below w1.heap.size w1 W)) => (show Calls Try.prog 30 #[.agg #[.string d.start, .string d.layout, .slice a2 d.prods.length c2, .slice a3 d.chains.length c3, .slice a4 d.follows.length c4, .slice a5 d.rejects.length c5, .slice a6 d.boxes.length c6], .string s] W fun e W' => e = .returned (.int .i64 cv) ∧ (fun W => (Hid (Below w1.heap.size w1 W) ∧ kx < W.heap.size ∧ W.cell? ⟨kx, 0, none⟩ = some (.string d.start) ∧ W.cell? ⟨kx, 1, none⟩ = some (.string d.layout) ∧ W.cell? ⟨kx, 2, none⟩ = some (.slice a2 d.prods.length c2) ∧ W.cell? ⟨kx, 3, none⟩ = some (.slice a3 d.chains.length c3) ∧ W.cell? ⟨kx, 4, none⟩ = some (.slice a4 d.follows.length c4) ∧ W.cell? ⟨kx, 5, none⟩ = some (.slice a5 d.rejects.length c5) ∧ W.cell? ⟨kx, 6, none⟩ = some (.slice a6 d.boxes.length c6))) W' from (rCons_any d a2 c2 a3 c3 a4 c4 a5 c5 a6 c6 s W (HD1.out.below h.out)).mono (fun e W' hh => ⟨by rw [← hcv]; exact hh.1, HS1.out W' (below_next h.out hh.2)⟩)))
        have HSN := hide (fun (l : List ByteArray) (a b : Option Addr) (c e : Nat) (W : World) (h : Hid (Below w1.heap.size w1 W)) (ha : Row StrAt 1 l a W) (hb : Row StrAt 1 l b W) => (show Calls Try.prog 26 #[.slice a l.length c, .slice b l.length e] W fun e W' => e = .returned (.bool true) ∧ (fun W => (Hid (Below w1.heap.size w1 W) ∧ kx < W.heap.size ∧ W.cell? ⟨kx, 0, none⟩ = some (.string d.start) ∧ W.cell? ⟨kx, 1, none⟩ = some (.string d.layout) ∧ W.cell? ⟨kx, 2, none⟩ = some (.slice a2 d.prods.length c2) ∧ W.cell? ⟨kx, 3, none⟩ = some (.slice a3 d.chains.length c3) ∧ W.cell? ⟨kx, 4, none⟩ = some (.slice a4 d.follows.length c4) ∧ W.cell? ⟨kx, 5, none⟩ = some (.slice a5 d.rejects.length c5) ∧ W.cell? ⟨kx, 6, none⟩ = some (.slice a6 d.boxes.length c6))) W' from (sameNames_eq l a b c e W ha hb).mono (fun e W' hh => ⟨hh.1, HS1.out W' (below_next h.out hh.2)⟩)))
        have hcc : (cv == cv) = true := by simp
        go_upto_region 10 with fail
        have hbd : Below w1.heap.size w1 wr.drew := HBW.out.drew
        have hs0 := HS1.out _ hbd
        clear hcv hkl hlti hlt
        go_region_held3 (fun W => (Hid (Below w1.heap.size w1 W) ∧ kx < W.heap.size ∧ W.cell? ⟨kx, 0, none⟩ = some (.string d.start) ∧ W.cell? ⟨kx, 1, none⟩ = some (.string d.layout) ∧ W.cell? ⟨kx, 2, none⟩ = some (.slice a2 d.prods.length c2) ∧ W.cell? ⟨kx, 3, none⟩ = some (.slice a3 d.chains.length c3) ∧ W.cell? ⟨kx, 4, none⟩ = some (.slice a4 d.follows.length c4) ∧ W.cell? ⟨kx, 5, none⟩ = some (.slice a5 d.rejects.length c5) ∧ W.cell? ⟨kx, 6, none⟩ = some (.slice a6 d.boxes.length c6))) (first | exact hs0 | assumption)
          (first
            | (go_at_call 12; refine (HAL.out _ (And.left (by assumption))).mono ?_; rintro e w41 ⟨rfl, hs41⟩)
            | (go_at_call 22; refine (HSO1.out _ (And.left (by assumption))).mono ?_; rintro e w42 ⟨a42, c42, rfl, hr42, hs42⟩)
            | (go_at_call 27; refine (HRS1.out _ (And.left (by assumption))).mono ?_; rintro e w43 ⟨a43, c43, rfl, hr43, hs43⟩)
            | (go_at_call 26; refine (HSN.out LS a42 a43 c42 c43 w43 (And.left hs43) (hr42.out.1.below StrAt.stable hr43.out.2) hr43.out.1).mono ?_; rintro e w44 ⟨rfl, hs44⟩)
            | (go_at_call 21; refine (H21.out _ (And.left (by assumption))).mono ?_; rintro e w45 ⟨rfl, hs45⟩)
            | (go_at_call 30; refine (H30.out _ (And.left (by assumption))).mono ?_; rintro e w46 ⟨rfl, hs46⟩))
        go_wp2_with fail
        go_ret
        exact ⟨rfl, below_next HB1.out (And.left hs46).out⟩
end Go.Proofs.Ytalicfpcmcbdbaa
