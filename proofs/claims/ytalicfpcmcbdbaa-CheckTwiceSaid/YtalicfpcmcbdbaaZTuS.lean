/- What is under way in CheckTurned. -/
import Derived.Test.YtalicfpcmcbdbaaZTuL
import Derived.Test.YtalicfpcmcbdbaaZLexF
set_option linter.unusedVariables false
set_option linter.unusedSimpArgs false
set_option linter.unnecessarySimpa false
set_option linter.deprecated false
namespace Go.Proofs.Ytalicfpcmcbdbaa
open Go.RowKit

/-- What is under way in CheckTurned. -/
structure TuS (d : Df) (a3 : Option Addr) (c3 : Nat) (w1 w5 : World) (ky : Nat) (bP bF bR bB kP kF kR kB : Nat) (vP vF vR vB : Value) (cP cF cR cB : List (List Value)) (W : World) : Prop where
  g : w5.grownBy W (some ky)
  y : Blk W ky #[.string d.start, .string d.layout, vP, .slice a3 d.chains.length c3, vF, vR, vB] 28
  p : TuL PdAt w1 w5.heap.size 38 5 (rotT d.prods bP kP) vP cP W
  f : TuL FlAt w1 w5.heap.size 48 5 (rotT d.follows bF kF) vF cF W
  r : TuL RjAt w1 w5.heap.size 50 2 (rotT d.rejects bR kR) vR cR W
  b : TuL BxAt w1 w5.heap.size 53 2 (rotT d.boxes bB kB) vB cB W
theorem TuS.drew {d : Df} {a3 : Option Addr} {c3 : Nat} {w1 w5 : World} {ky : Nat} {bP bF bR bB kP kF kR kB : Nat} {vP vF vR vB : Value} {cP cF cR cB : List (List Value)} {W : World} (h : TuS d a3 c3 w1 w5 ky bP bF bR bB kP kF kR kB vP vF vR vB cP cF cR cB W) : TuS d a3 c3 w1 w5 ky bP bF bR bB kP kF kR kB vP vF vR vB cP cF cR cB W.drew :=
  ⟨⟨h.g.os, h.g.tape, h.g.output, h.g.size, h.g.block⟩, h.y, ⟨h.p.own, h.p.len, h.p.sz, h.p.at_⟩, ⟨h.f.own, h.f.len, h.f.sz, h.f.at_⟩, ⟨h.r.own, h.r.len, h.r.sz, h.r.at_⟩, ⟨h.b.own, h.b.len, h.b.sz, h.b.at_⟩⟩
theorem grown_dalloc (W : World) (o : Obj) (row : Option Nat) : W.grownBy (W.drew.alloc o) row := by
  have h := World.grownBy_alloc W.drew o row
  exact ⟨h.os, h.tape, h.output, h.size, h.block⟩
theorem TuS.pushP {d : Df} {a3 : Option Addr} {c3 : Nat} {w1 w5 : World} {ky : Nat} {bP bF bR bB kP kF kR kB : Nat} {vP vF vR vB : Value} {cP cF cR cB : List (List Value)} {W : World} {wz : World} {v' : Value} {cs : List Value} {x : Pd} (h : TuS d a3 c3 w1 w5 ky bP bF bR bB kP kF kR kB vP vF vR vB cP cF cR cB W) (ho : wz.ownsRow w5.heap.size 38 5 v' (cP.length + 1) (cP.flatten ++ cs)) (hg : (W.drew.alloc (.cells cs.toArray 38)).grownBy wz vP.ownBlock) (hc : cs.length = 5)
    (hat : ∀ W', Below w1.heap.size w1 W' → ∀ b o, CellsAt cs b o W' → PdAt x b o W') (hr : rotT d.prods bP (kP + 1) = rotT d.prods bP kP ++ [x]) : Blk wz ky #[.string d.start, .string d.layout, vP, .slice a3 d.chains.length c3, vF, vR, vB] 28 ∧ TuS d a3 c3 w1 w5 ky bP bF bR bB (kP + 1) kF kR kB v' vF vR vB (cP ++ [cs]) cF cR cB (wz.setCell ⟨ky, 2, none⟩ v') := by
  have hgw : W.grownBy wz vP.ownBlock := (grown_dalloc W _ vP.ownBlock).andThen hg (fun j hj => Or.inr hj)
  have hne : some ky ≠ vP.ownBlock := h.y.own_ne h.p.own (by decide)
  have hy := h.y.grown hgw hne
  have hp := h.p.push ho rfl hc hat
  have hsc := grown_cell wz ky 2 v'
  refine ⟨hy, ⟨grown_trans (h.g.andThen hgw (fun j hj => Or.inl (own_block_ge h.p.own j hj))) hsc, hy.set 2 v', ?_, ?_, ?_, ?_⟩⟩
  · rw [hr]; exact hp.kept hsc (Or.inr (fun e => hy.own_ne hp.own (by decide) e.symm))
  · have hk := h.f.kept hgw (own_apart h.f.own h.p.own (by decide))
    exact hk.kept hsc (Or.inr (fun e => hy.own_ne hk.own (by decide) e.symm))
  · have hk := h.r.kept hgw (own_apart h.r.own h.p.own (by decide))
    exact hk.kept hsc (Or.inr (fun e => hy.own_ne hk.own (by decide) e.symm))
  · have hk := h.b.kept hgw (own_apart h.b.own h.p.own (by decide))
    exact hk.kept hsc (Or.inr (fun e => hy.own_ne hk.own (by decide) e.symm))
theorem TuS.pushF {d : Df} {a3 : Option Addr} {c3 : Nat} {w1 w5 : World} {ky : Nat} {bP bF bR bB kP kF kR kB : Nat} {vP vF vR vB : Value} {cP cF cR cB : List (List Value)} {W : World} {wz : World} {v' : Value} {cs : List Value} {x : Fl} (h : TuS d a3 c3 w1 w5 ky bP bF bR bB kP kF kR kB vP vF vR vB cP cF cR cB W) (ho : wz.ownsRow w5.heap.size 48 5 v' (cF.length + 1) (cF.flatten ++ cs)) (hg : (W.drew.alloc (.cells cs.toArray 48)).grownBy wz vF.ownBlock) (hc : cs.length = 5)
    (hat : ∀ W', Below w1.heap.size w1 W' → ∀ b o, CellsAt cs b o W' → FlAt x b o W') (hr : rotT d.follows bF (kF + 1) = rotT d.follows bF kF ++ [x]) : Blk wz ky #[.string d.start, .string d.layout, vP, .slice a3 d.chains.length c3, vF, vR, vB] 28 ∧ TuS d a3 c3 w1 w5 ky bP bF bR bB kP (kF + 1) kR kB vP v' vR vB cP (cF ++ [cs]) cR cB (wz.setCell ⟨ky, 4, none⟩ v') := by
  have hgw : W.grownBy wz vF.ownBlock := (grown_dalloc W _ vF.ownBlock).andThen hg (fun j hj => Or.inr hj)
  have hne : some ky ≠ vF.ownBlock := h.y.own_ne h.f.own (by decide)
  have hy := h.y.grown hgw hne
  have hp := h.f.push ho rfl hc hat
  have hsc := grown_cell wz ky 4 v'
  refine ⟨hy, ⟨grown_trans (h.g.andThen hgw (fun j hj => Or.inl (own_block_ge h.f.own j hj))) hsc, hy.set 4 v', ?_, ?_, ?_, ?_⟩⟩
  · have hk := h.p.kept hgw (own_apart h.p.own h.f.own (by decide))
    exact hk.kept hsc (Or.inr (fun e => hy.own_ne hk.own (by decide) e.symm))
  · rw [hr]; exact hp.kept hsc (Or.inr (fun e => hy.own_ne hp.own (by decide) e.symm))
  · have hk := h.r.kept hgw (own_apart h.r.own h.f.own (by decide))
    exact hk.kept hsc (Or.inr (fun e => hy.own_ne hk.own (by decide) e.symm))
  · have hk := h.b.kept hgw (own_apart h.b.own h.f.own (by decide))
    exact hk.kept hsc (Or.inr (fun e => hy.own_ne hk.own (by decide) e.symm))
theorem TuS.pushR {d : Df} {a3 : Option Addr} {c3 : Nat} {w1 w5 : World} {ky : Nat} {bP bF bR bB kP kF kR kB : Nat} {vP vF vR vB : Value} {cP cF cR cB : List (List Value)} {W : World} {wz : World} {v' : Value} {cs : List Value} {x : Rj} (h : TuS d a3 c3 w1 w5 ky bP bF bR bB kP kF kR kB vP vF vR vB cP cF cR cB W) (ho : wz.ownsRow w5.heap.size 50 2 v' (cR.length + 1) (cR.flatten ++ cs)) (hg : (W.drew.alloc (.cells cs.toArray 50)).grownBy wz vR.ownBlock) (hc : cs.length = 2)
    (hat : ∀ W', Below w1.heap.size w1 W' → ∀ b o, CellsAt cs b o W' → RjAt x b o W') (hr : rotT d.rejects bR (kR + 1) = rotT d.rejects bR kR ++ [x]) : Blk wz ky #[.string d.start, .string d.layout, vP, .slice a3 d.chains.length c3, vF, vR, vB] 28 ∧ TuS d a3 c3 w1 w5 ky bP bF bR bB kP kF (kR + 1) kB vP vF v' vB cP cF (cR ++ [cs]) cB (wz.setCell ⟨ky, 5, none⟩ v') := by
  have hgw : W.grownBy wz vR.ownBlock := (grown_dalloc W _ vR.ownBlock).andThen hg (fun j hj => Or.inr hj)
  have hne : some ky ≠ vR.ownBlock := h.y.own_ne h.r.own (by decide)
  have hy := h.y.grown hgw hne
  have hp := h.r.push ho rfl hc hat
  have hsc := grown_cell wz ky 5 v'
  refine ⟨hy, ⟨grown_trans (h.g.andThen hgw (fun j hj => Or.inl (own_block_ge h.r.own j hj))) hsc, hy.set 5 v', ?_, ?_, ?_, ?_⟩⟩
  · have hk := h.p.kept hgw (own_apart h.p.own h.r.own (by decide))
    exact hk.kept hsc (Or.inr (fun e => hy.own_ne hk.own (by decide) e.symm))
  · have hk := h.f.kept hgw (own_apart h.f.own h.r.own (by decide))
    exact hk.kept hsc (Or.inr (fun e => hy.own_ne hk.own (by decide) e.symm))
  · rw [hr]; exact hp.kept hsc (Or.inr (fun e => hy.own_ne hp.own (by decide) e.symm))
  · have hk := h.b.kept hgw (own_apart h.b.own h.r.own (by decide))
    exact hk.kept hsc (Or.inr (fun e => hy.own_ne hk.own (by decide) e.symm))
theorem TuS.pushB {d : Df} {a3 : Option Addr} {c3 : Nat} {w1 w5 : World} {ky : Nat} {bP bF bR bB kP kF kR kB : Nat} {vP vF vR vB : Value} {cP cF cR cB : List (List Value)} {W : World} {wz : World} {v' : Value} {cs : List Value} {x : Bx} (h : TuS d a3 c3 w1 w5 ky bP bF bR bB kP kF kR kB vP vF vR vB cP cF cR cB W) (ho : wz.ownsRow w5.heap.size 53 2 v' (cB.length + 1) (cB.flatten ++ cs)) (hg : (W.drew.alloc (.cells cs.toArray 53)).grownBy wz vB.ownBlock) (hc : cs.length = 2)
    (hat : ∀ W', Below w1.heap.size w1 W' → ∀ b o, CellsAt cs b o W' → BxAt x b o W') (hr : rotT d.boxes bB (kB + 1) = rotT d.boxes bB kB ++ [x]) : Blk wz ky #[.string d.start, .string d.layout, vP, .slice a3 d.chains.length c3, vF, vR, vB] 28 ∧ TuS d a3 c3 w1 w5 ky bP bF bR bB kP kF kR (kB + 1) vP vF vR v' cP cF cR (cB ++ [cs]) (wz.setCell ⟨ky, 6, none⟩ v') := by
  have hgw : W.grownBy wz vB.ownBlock := (grown_dalloc W _ vB.ownBlock).andThen hg (fun j hj => Or.inr hj)
  have hne : some ky ≠ vB.ownBlock := h.y.own_ne h.b.own (by decide)
  have hy := h.y.grown hgw hne
  have hp := h.b.push ho rfl hc hat
  have hsc := grown_cell wz ky 6 v'
  refine ⟨hy, ⟨grown_trans (h.g.andThen hgw (fun j hj => Or.inl (own_block_ge h.b.own j hj))) hsc, hy.set 6 v', ?_, ?_, ?_, ?_⟩⟩
  · have hk := h.p.kept hgw (own_apart h.p.own h.b.own (by decide))
    exact hk.kept hsc (Or.inr (fun e => hy.own_ne hk.own (by decide) e.symm))
  · have hk := h.f.kept hgw (own_apart h.f.own h.b.own (by decide))
    exact hk.kept hsc (Or.inr (fun e => hy.own_ne hk.own (by decide) e.symm))
  · have hk := h.r.kept hgw (own_apart h.r.own h.b.own (by decide))
    exact hk.kept hsc (Or.inr (fun e => hy.own_ne hk.own (by decide) e.symm))
  · rw [hr]; exact hp.kept hsc (Or.inr (fun e => hy.own_ne hp.own (by decide) e.symm))
end Go.Proofs.Ytalicfpcmcbdbaa
