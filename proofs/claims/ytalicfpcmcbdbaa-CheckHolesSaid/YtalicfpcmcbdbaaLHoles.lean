/- The walk of CheckHoles. -/
import Derived.Test.YtalicfpcmcbdbaaRefH
import Derived.Test.YtalicfpcmcbdbaaAlive
import Derived.Deep.RegionHeld3
set_option linter.unusedVariables false
set_option linter.unusedSimpArgs false
set_option linter.unnecessarySimpa false
set_option linter.deprecated false
namespace Go.Proofs.Ytalicfpcmcbdbaa
open Go.RowKit

set_option maxHeartbeats 800000 in
set_option maxRecDepth 100000 in
theorem lawHoles_any (p : Pd) (ap : Option Addr) (cp : Nat) (w : World) (hr : Row SyAt 8 p.syms ap w) : Calls Try.prog 4 #[.agg #[.bool p.lex, .string p.sort, .string p.cons, .bool p.bracket, .slice ap p.syms.length cp]] w fun e w' => e = .returned (.bool true) ∧ Below w.heap.size w w' := by
  have HB0 := hide ((Below.refl w.heap.size w).alloc (Nat.le_refl _) (.cells #[.bool p.lex, .string p.sort, .string p.cons, .bool p.bracket, .slice ap p.syms.length cp] 38))
  have HX0 := hide (Blk.new w #[.bool p.lex, .string p.sort, .string p.cons, .bool p.bracket, .slice ap p.syms.length cp] 38)
  have HR := hide (hr.below SyAt.stable HB0.out)
  have hl0 := hr.1
  clear hr
  go_enter Try.func4, Try.ntmps4
  go_upto_region 1 with fail
  obtain ⟨kx, hkx⟩ : ∃ kx, w.heap.size = kx := ⟨_, rfl⟩
  obtain ⟨w1, h1⟩ : ∃ w1, w.alloc (.cells #[.bool p.lex, .string p.sort, .string p.cons, .bool p.bracket, .slice ap p.syms.length cp] 38) = w1 := ⟨_, rfl⟩
  rw [h1] at HR HB0 HX0 ⊢
  rw [hkx] at HX0 ⊢
  clear h1 hkx
  have x4 := HX0.out.cell 4
  have xl := HX0.out.lt
  by_cases hbig : p.syms.length > 4096
  · have hbi : (p.syms.length : Int) > 4096 := by omega
    have HC := hide (alive_any w1)
    go_wp2_with fail
    refine HC.out.mono ?_
    rintro e w2 ⟨rfl, hb2⟩
    have HB2 := hide (below_next HB0.out hb2)
    clear x4 xl hb2
    go_wp2_with fail
    go_ret
    exact ⟨rfl, HB2.out⟩
  · have hbi : ¬ (p.syms.length : Int) > 4096 := by omega
    go_upto_region 3 with fail
    clear x4 xl
    have HS := hide (fun (W : World) (h : Below w1.heap.size w1 W) => (show (Hid (Below w1.heap.size w1 W) ∧ kx < W.heap.size ∧ W.cell? ⟨kx, 0, none⟩ = some (.bool p.lex) ∧ W.cell? ⟨kx, 1, none⟩ = some (.string p.sort) ∧ W.cell? ⟨kx, 2, none⟩ = some (.string p.cons) ∧ W.cell? ⟨kx, 3, none⟩ = some (.bool p.bracket) ∧ W.cell? ⟨kx, 4, none⟩ = some (.slice ap p.syms.length cp)) from
      have q := HX0.out.below h
      ⟨hide h, q.lt, q.cell 0, q.cell 1, q.cell 2, q.cell 3, q.cell 4⟩))
    have HA := hide (fun (W : World) (h : Hid (Below w1.heap.size w1 W)) => (show Calls Try.prog 12 #[] W fun e W' => e = .returned (.bool true) ∧ (fun W => (Hid (Below w1.heap.size w1 W) ∧ kx < W.heap.size ∧ W.cell? ⟨kx, 0, none⟩ = some (.bool p.lex) ∧ W.cell? ⟨kx, 1, none⟩ = some (.string p.sort) ∧ W.cell? ⟨kx, 2, none⟩ = some (.string p.cons) ∧ W.cell? ⟨kx, 3, none⟩ = some (.bool p.bracket) ∧ W.cell? ⟨kx, 4, none⟩ = some (.slice ap p.syms.length cp))) W' from (alive_any W).mono (fun e W' hh => ⟨hh.1, HS.out W' (below_next h.out hh.2)⟩)))
    have H18 := hide (fun (W : World) (h : Hid (Below w1.heap.size w1 W)) => (show Calls Try.prog 18 #[.agg #[.bool p.lex, .string p.sort, .string p.cons, .bool p.bracket, .slice ap p.syms.length cp]] W fun e W' => ∃ a c, e = .returned (.slice a (holesOf p.syms 0).length c) ∧ Hid (Row NatAt 1 (holesOf p.syms 0) a W') ∧ (fun W => (Hid (Below w1.heap.size w1 W) ∧ kx < W.heap.size ∧ W.cell? ⟨kx, 0, none⟩ = some (.bool p.lex) ∧ W.cell? ⟨kx, 1, none⟩ = some (.string p.sort) ∧ W.cell? ⟨kx, 2, none⟩ = some (.string p.cons) ∧ W.cell? ⟨kx, 3, none⟩ = some (.bool p.bracket) ∧ W.cell? ⟨kx, 4, none⟩ = some (.slice ap p.syms.length cp))) W' from (Holes_at p ap cp W (HR.out.below SyAt.stable h.out) (by omega)).mono (fun e W' hh => by
      obtain ⟨v, rfl, ho, hb⟩ := hh
      obtain ⟨a, c, rfl, hr⟩ := ho.row (by have := holesOf_len p.syms 0; omega)
      exact ⟨a, c, rfl, hide hr, HS.out W' (below_next h.out hb)⟩)))
    have H19 := hide (fun (W : World) (h : Hid (Below w1.heap.size w1 W)) => (show Calls Try.prog 19 #[.agg #[.bool p.lex, .string p.sort, .string p.cons, .bool p.bracket, .slice ap p.syms.length cp]] W fun e W' => ∃ a c, e = .returned (.slice a (holesOf p.syms 0).length c) ∧ Hid (Row NatAt 1 (holesOf p.syms 0) a W' ∧ Below W.heap.size W W') ∧ (fun W => (Hid (Below w1.heap.size w1 W) ∧ kx < W.heap.size ∧ W.cell? ⟨kx, 0, none⟩ = some (.bool p.lex) ∧ W.cell? ⟨kx, 1, none⟩ = some (.string p.sort) ∧ W.cell? ⟨kx, 2, none⟩ = some (.string p.cons) ∧ W.cell? ⟨kx, 3, none⟩ = some (.bool p.bracket) ∧ W.cell? ⟨kx, 4, none⟩ = some (.slice ap p.syms.length cp))) W' from (rHoles_at p ap cp W (HR.out.below SyAt.stable h.out) (by omega)).mono (fun e W' hh => by
      obtain ⟨v, rfl, ho, hb⟩ := hh
      obtain ⟨a, c, rfl, hr⟩ := ho.row (by have := holesOf_len p.syms 0; omega)
      exact ⟨a, c, rfl, hide ⟨hr, hb⟩, HS.out W' (below_next h.out hb)⟩)))
    have hs := HS.out _ (Below.drew (Below.refl w1.heap.size w1))
    go_region_held3 (fun W => (Hid (Below w1.heap.size w1 W) ∧ kx < W.heap.size ∧ W.cell? ⟨kx, 0, none⟩ = some (.bool p.lex) ∧ W.cell? ⟨kx, 1, none⟩ = some (.string p.sort) ∧ W.cell? ⟨kx, 2, none⟩ = some (.string p.cons) ∧ W.cell? ⟨kx, 3, none⟩ = some (.bool p.bracket) ∧ W.cell? ⟨kx, 4, none⟩ = some (.slice ap p.syms.length cp))) (first | exact hs | assumption)
      (first
        | (go_at_call 12; refine (HA.out _ (And.left (by assumption))).mono ?_; rintro e w2 ⟨rfl, hs2⟩)
        | (go_at_call 18; refine (H18.out _ (And.left (by assumption))).mono ?_; rintro e w3 ⟨a3, c3, rfl, hr3, hs3⟩)
        | (go_at_call 19; refine (H19.out _ (And.left (by assumption))).mono ?_; rintro e w4 ⟨a4, c4, rfl, hr4, hs4⟩)
        | (go_at_call 17; refine (sameInts_eq _ a3 a4 c3 c4 _ (hr3.out.below NatAt.stable hr4.out.2) hr4.out.1).mono ?_; rintro e w5 ⟨rfl, hb5⟩; have hs5 := HS.out w5 (below_next (And.left hs4).out hb5)))
    go_wp2_with fail
    go_ret
    exact ⟨rfl, below_next HB0.out (And.left hs5).out⟩
end Go.Proofs.Ytalicfpcmcbdbaa
