/- What is under way in CheckTurned. What is under way in Copy. What Copy answers. Definitions that can be copied. The reference: Leaves. The plain law of templates. -/
import Derived.Test.YtalicfpcmcbdbaaZCpE
import Derived.Test.YtalicfpcmcbdbaaZLexF
import Derived.Test.YtalicfpcmcbdbaaZOkD
import Derived.Test.YtalicfpcmcbdbaaZParts
import Derived.Test.YtalicfpcmcbdbaaZRItems
import Derived.Test.YtalicfpcmcbdbaaZChk
set_option linter.unusedVariables false
set_option linter.unusedSimpArgs false
set_option linter.unnecessarySimpa false
set_option linter.deprecated false
namespace Go.Proofs.Ytalicfpcmcbdbaa
open Go.RowKit

/-- What is under way in CheckTurned. -/
structure TuS (d : Df) (a3 : Option Addr) (c3 : Nat) (w1 w5 : World) (ky : Nat) (bP bF bR bB kP kF kR kB : Nat) (vP vF vR vB : Value) (cP cF cR cB : List (List Value)) (W : World) : Prop where
  g : w5.grownBy W (some ky)
  y : Blk W ky #[.string d.start, .string d.layout, vP, .slice a3 d.chains.length c3, vF, vR, vB] 28
  p : TuL PdAt w1 w5.heap.size 38 5 (rotT d.prods bP kP) vP cP W
  f : TuL FlAt w1 w5.heap.size 48 5 (rotT d.follows bF kF) vF cF W
  r : TuL RjAt w1 w5.heap.size 50 2 (rotT d.rejects bR kR) vR cR W
  b : TuL BxAt w1 w5.heap.size 53 2 (rotT d.boxes bB kB) vB cB W
theorem TuS.drew {d : Df} {a3 : Option Addr} {c3 : Nat} {w1 w5 : World} {ky : Nat} {bP bF bR bB kP kF kR kB : Nat} {vP vF vR vB : Value} {cP cF cR cB : List (List Value)} {W : World} (h : TuS d a3 c3 w1 w5 ky bP bF bR bB kP kF kR kB vP vF vR vB cP cF cR cB W) : TuS d a3 c3 w1 w5 ky bP bF bR bB kP kF kR kB vP vF vR vB cP cF cR cB W.drew :=
  ⟨⟨h.g.os, h.g.tape, h.g.output, h.g.size, h.g.block⟩, h.y, ⟨h.p.own, h.p.len, h.p.sz, h.p.at_⟩, ⟨h.f.own, h.f.len, h.f.sz, h.f.at_⟩, ⟨h.r.own, h.r.len, h.r.sz, h.r.at_⟩, ⟨h.b.own, h.b.len, h.b.sz, h.b.at_⟩⟩
theorem grown_dalloc (W : World) (o : Obj) (row : Option Nat) : W.grownBy (W.drew.alloc o) row := by
  have h := World.grownBy_alloc W.drew o row
  exact ⟨h.os, h.tape, h.output, h.size, h.block⟩
theorem TuS.pushP {d : Df} {a3 : Option Addr} {c3 : Nat} {w1 w5 : World} {ky : Nat} {bP bF bR bB kP kF kR kB : Nat} {vP vF vR vB : Value} {cP cF cR cB : List (List Value)} {W : World} {wz : World} {v' : Value} {cs : List Value} {x : Pd} (h : TuS d a3 c3 w1 w5 ky bP bF bR bB kP kF kR kB vP vF vR vB cP cF cR cB W) (ho : wz.ownsRow w5.heap.size 38 5 v' (cP.length + 1) (cP.flatten ++ cs)) (hg : (W.drew.alloc (.cells cs.toArray 38)).grownBy wz vP.ownBlock) (hc : cs.length = 5)
    (hat : ∀ W', Below w1.heap.size w1 W' → ∀ b o, CellsAt cs b o W' → PdAt x b o W') (hr : rotT d.prods bP (kP + 1) = rotT d.prods bP kP ++ [x]) : Blk wz ky #[.string d.start, .string d.layout, vP, .slice a3 d.chains.length c3, vF, vR, vB] 28 ∧ TuS d a3 c3 w1 w5 ky bP bF bR bB (kP + 1) kF kR kB v' vF vR vB (cP ++ [cs]) cF cR cB (wz.setCell ⟨ky, 2, none⟩ v') := by
  have hgw : W.grownBy wz vP.ownBlock := (grown_dalloc W _ vP.ownBlock).andThen hg (fun j hj => Or.inr hj)
  have hne : some ky ≠ vP.ownBlock := h.y.own_ne h.p.own (by decide)
  have hy := h.y.grown hgw hne
  have hp := h.p.push ho rfl hc hat
  have hsc := grown_cell wz ky 2 v'
  refine ⟨hy, ⟨grown_trans (h.g.andThen hgw (fun j hj => Or.inl (own_block_ge h.p.own j hj))) hsc, hy.set 2 v', ?_, ?_, ?_, ?_⟩⟩
  · rw [hr]; exact hp.kept hsc (Or.inr (fun e => hy.own_ne hp.own (by decide) e.symm))
  · have hk := h.f.kept hgw (own_apart h.f.own h.p.own (by decide))
    exact hk.kept hsc (Or.inr (fun e => hy.own_ne hk.own (by decide) e.symm))
  · have hk := h.r.kept hgw (own_apart h.r.own h.p.own (by decide))
    exact hk.kept hsc (Or.inr (fun e => hy.own_ne hk.own (by decide) e.symm))
  · have hk := h.b.kept hgw (own_apart h.b.own h.p.own (by decide))
    exact hk.kept hsc (Or.inr (fun e => hy.own_ne hk.own (by decide) e.symm))
theorem TuS.pushF {d : Df} {a3 : Option Addr} {c3 : Nat} {w1 w5 : World} {ky : Nat} {bP bF bR bB kP kF kR kB : Nat} {vP vF vR vB : Value} {cP cF cR cB : List (List Value)} {W : World} {wz : World} {v' : Value} {cs : List Value} {x : Fl} (h : TuS d a3 c3 w1 w5 ky bP bF bR bB kP kF kR kB vP vF vR vB cP cF cR cB W) (ho : wz.ownsRow w5.heap.size 48 5 v' (cF.length + 1) (cF.flatten ++ cs)) (hg : (W.drew.alloc (.cells cs.toArray 48)).grownBy wz vF.ownBlock) (hc : cs.length = 5)
    (hat : ∀ W', Below w1.heap.size w1 W' → ∀ b o, CellsAt cs b o W' → FlAt x b o W') (hr : rotT d.follows bF (kF + 1) = rotT d.follows bF kF ++ [x]) : Blk wz ky #[.string d.start, .string d.layout, vP, .slice a3 d.chains.length c3, vF, vR, vB] 28 ∧ TuS d a3 c3 w1 w5 ky bP bF bR bB kP (kF + 1) kR kB vP v' vR vB cP (cF ++ [cs]) cR cB (wz.setCell ⟨ky, 4, none⟩ v') := by
  have hgw : W.grownBy wz vF.ownBlock := (grown_dalloc W _ vF.ownBlock).andThen hg (fun j hj => Or.inr hj)
  have hne : some ky ≠ vF.ownBlock := h.y.own_ne h.f.own (by decide)
  have hy := h.y.grown hgw hne
  have hp := h.f.push ho rfl hc hat
  have hsc := grown_cell wz ky 4 v'
  refine ⟨hy, ⟨grown_trans (h.g.andThen hgw (fun j hj => Or.inl (own_block_ge h.f.own j hj))) hsc, hy.set 4 v', ?_, ?_, ?_, ?_⟩⟩
  · have hk := h.p.kept hgw (own_apart h.p.own h.f.own (by decide))
    exact hk.kept hsc (Or.inr (fun e => hy.own_ne hk.own (by decide) e.symm))
  · rw [hr]; exact hp.kept hsc (Or.inr (fun e => hy.own_ne hp.own (by decide) e.symm))
  · have hk := h.r.kept hgw (own_apart h.r.own h.f.own (by decide))
    exact hk.kept hsc (Or.inr (fun e => hy.own_ne hk.own (by decide) e.symm))
  · have hk := h.b.kept hgw (own_apart h.b.own h.f.own (by decide))
    exact hk.kept hsc (Or.inr (fun e => hy.own_ne hk.own (by decide) e.symm))
theorem TuS.pushR {d : Df} {a3 : Option Addr} {c3 : Nat} {w1 w5 : World} {ky : Nat} {bP bF bR bB kP kF kR kB : Nat} {vP vF vR vB : Value} {cP cF cR cB : List (List Value)} {W : World} {wz : World} {v' : Value} {cs : List Value} {x : Rj} (h : TuS d a3 c3 w1 w5 ky bP bF bR bB kP kF kR kB vP vF vR vB cP cF cR cB W) (ho : wz.ownsRow w5.heap.size 50 2 v' (cR.length + 1) (cR.flatten ++ cs)) (hg : (W.drew.alloc (.cells cs.toArray 50)).grownBy wz vR.ownBlock) (hc : cs.length = 2)
    (hat : ∀ W', Below w1.heap.size w1 W' → ∀ b o, CellsAt cs b o W' → RjAt x b o W') (hr : rotT d.rejects bR (kR + 1) = rotT d.rejects bR kR ++ [x]) : Blk wz ky #[.string d.start, .string d.layout, vP, .slice a3 d.chains.length c3, vF, vR, vB] 28 ∧ TuS d a3 c3 w1 w5 ky bP bF bR bB kP kF (kR + 1) kB vP vF v' vB cP cF (cR ++ [cs]) cB (wz.setCell ⟨ky, 5, none⟩ v') := by
  have hgw : W.grownBy wz vR.ownBlock := (grown_dalloc W _ vR.ownBlock).andThen hg (fun j hj => Or.inr hj)
  have hne : some ky ≠ vR.ownBlock := h.y.own_ne h.r.own (by decide)
  have hy := h.y.grown hgw hne
  have hp := h.r.push ho rfl hc hat
  have hsc := grown_cell wz ky 5 v'
  refine ⟨hy, ⟨grown_trans (h.g.andThen hgw (fun j hj => Or.inl (own_block_ge h.r.own j hj))) hsc, hy.set 5 v', ?_, ?_, ?_, ?_⟩⟩
  · have hk := h.p.kept hgw (own_apart h.p.own h.r.own (by decide))
    exact hk.kept hsc (Or.inr (fun e => hy.own_ne hk.own (by decide) e.symm))
  · have hk := h.f.kept hgw (own_apart h.f.own h.r.own (by decide))
    exact hk.kept hsc (Or.inr (fun e => hy.own_ne hk.own (by decide) e.symm))
  · rw [hr]; exact hp.kept hsc (Or.inr (fun e => hy.own_ne hp.own (by decide) e.symm))
  · have hk := h.b.kept hgw (own_apart h.b.own h.r.own (by decide))
    exact hk.kept hsc (Or.inr (fun e => hy.own_ne hk.own (by decide) e.symm))
theorem TuS.pushB {d : Df} {a3 : Option Addr} {c3 : Nat} {w1 w5 : World} {ky : Nat} {bP bF bR bB kP kF kR kB : Nat} {vP vF vR vB : Value} {cP cF cR cB : List (List Value)} {W : World} {wz : World} {v' : Value} {cs : List Value} {x : Bx} (h : TuS d a3 c3 w1 w5 ky bP bF bR bB kP kF kR kB vP vF vR vB cP cF cR cB W) (ho : wz.ownsRow w5.heap.size 53 2 v' (cB.length + 1) (cB.flatten ++ cs)) (hg : (W.drew.alloc (.cells cs.toArray 53)).grownBy wz vB.ownBlock) (hc : cs.length = 2)
    (hat : ∀ W', Below w1.heap.size w1 W' → ∀ b o, CellsAt cs b o W' → BxAt x b o W') (hr : rotT d.boxes bB (kB + 1) = rotT d.boxes bB kB ++ [x]) : Blk wz ky #[.string d.start, .string d.layout, vP, .slice a3 d.chains.length c3, vF, vR, vB] 28 ∧ TuS d a3 c3 w1 w5 ky bP bF bR bB kP kF kR (kB + 1) vP vF vR v' cP cF cR (cB ++ [cs]) (wz.setCell ⟨ky, 6, none⟩ v') := by
  have hgw : W.grownBy wz vB.ownBlock := (grown_dalloc W _ vB.ownBlock).andThen hg (fun j hj => Or.inr hj)
  have hne : some ky ≠ vB.ownBlock := h.y.own_ne h.b.own (by decide)
  have hy := h.y.grown hgw hne
  have hp := h.b.push ho rfl hc hat
  have hsc := grown_cell wz ky 6 v'
  refine ⟨hy, ⟨grown_trans (h.g.andThen hgw (fun j hj => Or.inl (own_block_ge h.b.own j hj))) hsc, hy.set 6 v', ?_, ?_, ?_, ?_⟩⟩
  · have hk := h.p.kept hgw (own_apart h.p.own h.b.own (by decide))
    exact hk.kept hsc (Or.inr (fun e => hy.own_ne hk.own (by decide) e.symm))
  · have hk := h.f.kept hgw (own_apart h.f.own h.b.own (by decide))
    exact hk.kept hsc (Or.inr (fun e => hy.own_ne hk.own (by decide) e.symm))
  · have hk := h.r.kept hgw (own_apart h.r.own h.b.own (by decide))
    exact hk.kept hsc (Or.inr (fun e => hy.own_ne hk.own (by decide) e.symm))
  · rw [hr]; exact hp.kept hsc (Or.inr (fun e => hy.own_ne hp.own (by decide) e.symm))
end Go.Proofs.Ytalicfpcmcbdbaa

set_option linter.unusedVariables false
set_option linter.unusedSimpArgs false
set_option linter.unnecessarySimpa false
set_option linter.deprecated false
namespace Go.Proofs.Ytalicfpcmcbdbaa
open Go.RowKit

theorem info66 : (Try.prog.info? 66).map (fun i => (i.zero, i.size, i.bytes)) = some (some (.slice none 0 0), 1, 24) := by kernel_rfl
theorem info68 : (Try.prog.info? 68).map (fun i => (i.zero, i.size, i.bytes)) = some (some (.agg #[.int .i64 0, .slice none 0 0]), 2, 32) := by kernel_rfl
theorem step_append_src {P : Program} {ops : Array Oper} {o : Oper} {a : Act} {w : World} {K : Act → World → Prop} {Q : Exit → Act → World → Prop} {E : Prop}
    (hg : o.guard = none) (s x : Operand) (t : TypeId) (hop : o.op = Op.call { callee := Callee.builtin Builtin.append, args := #[s, x], argTypes := #[t, t] })
    (base : Nat) (e : TypeId) (i : TypeInfo) (z : Value) (size bytes : Nat) (ht : P.underlying t = some (.slice e)) (hi : P.info? e = some i) (hz : i.zero = some z)
    (hsize : i.size = size) (hby : i.bytes = bytes) (hzs : z.cells.size = size) (hsz : 0 < size)
    (v : Value) (n : Nat) (xs : List Value) (hs : a.eval s = v) (hown : w.ownsRow base e size v n xs)
    (ax : Option Addr) (m cx : Nat) (news : List Value) (hx : a.eval x = .slice ax m cx) (hsrc : Srcs ax m news w) (hl : news.length = m * size) (h1 : ∀ u ∈ news, u.oneCell' = true)
    (h63 : n + m ≤ maxLen) (hbytes : (n + m) * bytes ≤ 140737488355328) (hbase : base ≤ w.heap.size)
    (h : ∀ v' w', w'.ownsRow base e size v' (n + m) (xs ++ news) → w.grownBy w' v.ownBlock → K (a.put o.dst v') w') :
    if Region.wanted o (yielded ops a.tmps) = true then Oper.wp P o a w K Q else E := by
  rcases hsrc with ⟨rfl, rfl, rfl⟩ | ⟨ad, rfl, hc⟩
  · have hw : Region.wanted o (yielded ops a.tmps) = true := by simp [Region.wanted, hg]
    rw [if_pos hw]
    have hrun := run_append_noneC (P := P) (w := w) base t o.type e i size cx ht hi v n xs hown
    unfold Oper.wp execOp
    simp only [hop, resolve, invoke, builtin, Sem.run_bind, Sem.run_pure, Result.andThen_ok, List.map_toArray, List.map_cons, List.map_nil, hs, hx, hrun]
    refine h v w ?_ (World.grownBy.refl _ _)
    rw [List.append_nil, Nat.add_zero]; exact hown
  · exact step_append_own hg s x t hop base e i z size bytes ht hi hz hsize hby hzs hsz v n xs hs hown ad m cx news hx hl hc h1 h63 hbytes hbase (fun v' w' a1 a2 _ _ => h v' w' a1 a2)
/-- A production whose symbols are one's own. -/
def EP (p : Pd) (cs : List Value) (W : World) : Prop := ∃ vs, cs = [.bool p.lex, .string p.sort, .string p.cons, .bool p.bracket, vs] ∧ p.ok ∧ (∀ s ∈ p.syms, s.ok) ∧ W.ownsRow 0 61 8 vs p.syms.length (symsC p.syms)
def EG (g : Gp) (cs : List Value) (W : World) : Prop := ∃ vs, cs = [.int .i64 g.assoc, vs] ∧ i64 g.assoc ∧ OwnS 0 vs g.cons W
def EC (ch : List Gp) (cs : List Value) (W : World) : Prop := ∃ v css, cs = [v] ∧ OwnE EG 0 68 2 ch v css W
def EF (f : Fl) (cs : List Value) (_ : World) : Prop := cs = flC f ∧ f.ok
def ER (r : Rj) (cs : List Value) (_ : World) : Prop := cs = [.string r.sort, .string r.by_] ∧ r.ok
def EB (x : Bx) (cs : List Value) (W : World) : Prop := ∃ v css, cs = [.string x.cons, v] ∧ short x.cons ∧ OwnE (EIt (fun _ => True)) 0 96 4 x.items v css W
theorem EP.st {t : TypeId} (h : 61 ≠ t) : StT EP t := fun x cs W W' ht ⟨vs, h1, h2, h3, h4⟩ => ⟨vs, h1, h2, h3, ht.own h4 h⟩
theorem EG.st {t : TypeId} (h : 9 ≠ t) : StT EG t := fun x cs W W' ht ⟨vs, h1, h2, h3⟩ => ⟨vs, h1, h2, ht.own h3.1 h, h3.2⟩
theorem EC.st {t : TypeId} (h : 9 ≠ t) (h2 : 68 ≠ t) : StT EC t := fun x cs W W' ht ⟨v, css, h1, h3⟩ => ⟨v, css, h1, h3.touch ht h2 (EG.st h)⟩
theorem EF.st {t : TypeId} : StT EF t := fun x cs W W' ht h => h
theorem ER.st {t : TypeId} : StT ER t := fun x cs W W' ht h => h
theorem EIt.st {t : TypeId} (h : 96 ≠ t) : StT (EIt (fun _ => True)) t := fun x cs W W' ht he => EIt.keep x cs W W' (fun g c _ hb => ht.blk hb h) (fun _ _ h => h) he
theorem EB.st {t : TypeId} (h : 96 ≠ t) : StT EB t := fun x cs W W' ht ⟨v, css, h1, h2, h3⟩ => ⟨v, css, h1, h2, h3.touch ht h (EIt.st h)⟩
theorem EP.at {p : Pd} {cs : List Value} {W : World} {b o : Nat} (h : EP p cs W) (hc : CellsAt cs b o W) (hl : p.syms.length ≤ 140737488351232) : PdAt p b o W := by
  obtain ⟨vs, rfl, h2, h3, h4⟩ := h
  have ho : OwnE (fun (s : Sy) cs (_ : World) => cs = syC s ∧ s.ok) 0 61 8 p.syms vs (p.syms.map syC) W := by
    refine ⟨?_, by simp, fun cs hcs => ?_, fun i h1 h5 => ⟨by simp, h3 _ (List.getElem_mem h5)⟩⟩
    · have e : (p.syms.map syC).flatten = symsC p.syms := by unfold symsC; rw [List.flatMap_def]
      rw [e, List.length_map]; exact h4
    · obtain ⟨s, _, rfl⟩ := List.mem_map.1 hcs; rfl
  obtain ⟨a, c, rfl, hr, hcap⟩ := ho.row (At := SyAt) (fun s _ cs b o he hc => ⟨he.2, by rw [← he.1]; exact hc⟩) hl
  exact ⟨h2, a, c, hc, hr, hcap⟩
theorem EG.at {g : Gp} {cs : List Value} {W : World} {b o : Nat} (h : EG g cs W) (hc : CellsAt cs b o W) (hl : g.cons.length ≤ 140737488351232) : GpAt g b o W := by
  obtain ⟨vs, rfl, h2, h3⟩ := h
  obtain ⟨a, c, rfl, hr⟩ := h3.row hl
  exact ⟨h2, a, c, hc, hr⟩
theorem EC.at {ch : List Gp} {cs : List Value} {W : World} {b o : Nat} (h : EC ch cs W) (hc : CellsAt cs b o W) (hl : ch.length ≤ 140737488351232) (hg : ∀ g ∈ ch, g.cons.length ≤ 140737488351232) : ChAt ch b o W := by
  obtain ⟨v, css, rfl, h2⟩ := h
  obtain ⟨a, c, rfl, hr, _⟩ := h2.row (At := GpAt) (fun g hgm cs b o he hc => he.at hc (hg g hgm)) hl
  exact ⟨a, c, hc 0 _ rfl, hr⟩
theorem EB.at {x : Bx} {cs : List Value} {W : World} {b o : Nat} (h : EB x cs W) (hc : CellsAt cs b o W) (hf : FitIs x.items) : BxAt x b o W := by
  obtain ⟨v, css, rfl, h2, h3⟩ := h
  obtain ⟨a, c, rfl, hr, _⟩ := items_row h3 hf
  exact ⟨h2, a, c, hc, hr⟩
/-- A definition that can be copied. -/
structure FitD (d : Df) : Prop where
  s : Small d
  cl : d.chains.length ≤ 100000
  gl : ∀ ch ∈ d.chains, ch.length ≤ 100000
  nl : ∀ ch ∈ d.chains, ∀ g ∈ ch, g.cons.length ≤ 100000
  bx : ∀ x ∈ d.boxes, FitIs x.items
/-- What is under way in Copy. -/
structure CpS (d : Df) (w1 : World) (kz kP kC kF kR kB : Nat) (vP vC vF vR vB : Value) (cP cC cF cR cB : List (List Value)) (W : World) : Prop where
  g : Below w1.heap.size w1 W
  z : w1.heap.size ≤ kz
  y : Blk W kz #[.string d.start, .string d.layout, vP, vC, vF, vR, vB] 28
  p : OwnE EP w1.heap.size 38 5 (d.prods.take kP) vP cP W
  c : OwnE EC w1.heap.size 66 1 (d.chains.take kC) vC cC W
  f : OwnE EF w1.heap.size 48 5 (d.follows.take kF) vF cF W
  r : OwnE ER w1.heap.size 50 2 (d.rejects.take kR) vR cR W
  b : OwnE EB w1.heap.size 53 2 (d.boxes.take kB) vB cB W
theorem CpS.below {d : Df} {w1 : World} {kz kP kC kF kR kB : Nat} {vP vC vF vR vB : Value} {cP cC cF cR cB : List (List Value)} {W : World} {W' : World} (h : CpS d w1 kz kP kC kF kR kB vP vC vF vR vB cP cC cF cR cB W) (hb : Below W.heap.size W W') : CpS d w1 kz kP kC kF kR kB vP vC vF vR vB cP cC cF cR cB W' := by
  have ht : Touch W W' 28 := Touch.of_below hb
  exact ⟨below_next h.g hb, h.z, h.y.below hb, h.p.touch ht (by decide) (EP.st (by decide)), h.c.touch ht (by decide) (EC.st (by decide) (by decide)), h.f.touch ht (by decide) (EF.st), h.r.touch ht (by decide) (ER.st), h.b.touch ht (by decide) (EB.st (by decide))⟩
theorem CpS.pushP {d : Df} {w1 : World} {kz kP kC kF kR kB : Nat} {vP vC vF vR vB : Value} {cP cC cF cR cB : List (List Value)} {W : World} {W2 wz : World} {v' : Value} {cs : List Value} {x : Pd} (h : CpS d w1 kz kP kC kF kR kB vP vC vF vR vB cP cC cF cR cB W) (ho : wz.ownsRow w1.heap.size 38 5 v' (cP.length + 1) (cP.flatten ++ cs)) (hb : Below W.heap.size W W2) (hg : W2.grownBy wz vP.ownBlock) (hc : cs.length = 5)
    (hx : EP x cs W2) (hr : d.prods.take (kP + 1) = d.prods.take kP ++ [x]) : Blk wz kz #[.string d.start, .string d.layout, vP, vC, vF, vR, vB] 28 ∧ CpS d w1 kz (kP + 1) kC kF kR kB v' vC vF vR vB (cP ++ [cs]) cC cF cR cB (wz.setCell ⟨kz, 2, none⟩ v') := by
  have h2 := h.below hb
  have hgw := hg
  have hne : some kz ≠ vP.ownBlock := h2.y.own_ne h2.p.own (by decide)
  have hy := h2.y.grown hgw hne
  have ht : Touch W2 wz 38 := Touch.of_own h2.p.own hgw
  have ht2 : Touch wz (wz.setCell ⟨kz, 2, none⟩ v') 28 := Touch.set hy v'
  have hp := h2.p.push ho rfl hc ht (EP.st (by decide)) hx
  refine ⟨hy, ⟨(h2.g.grown hgw h2.g.size (fun g hg => own_block_ge h2.p.own g hg)).setCell (by have := h.z; simp only; omega) _, h.z, hy.set 2 v', ?_, ?_, ?_, ?_, ?_⟩⟩
  · rw [hr]; exact hp.touch ht2 (by decide) (EP.st (by decide))
  · exact (h2.c.touch ht (by decide) (EC.st (by decide) (by decide))).touch ht2 (by decide) (EC.st (by decide) (by decide))
  · exact (h2.f.touch ht (by decide) (EF.st)).touch ht2 (by decide) (EF.st)
  · exact (h2.r.touch ht (by decide) (ER.st)).touch ht2 (by decide) (ER.st)
  · exact (h2.b.touch ht (by decide) (EB.st (by decide))).touch ht2 (by decide) (EB.st (by decide))
theorem CpS.pushC {d : Df} {w1 : World} {kz kP kC kF kR kB : Nat} {vP vC vF vR vB : Value} {cP cC cF cR cB : List (List Value)} {W : World} {W2 wz : World} {v' : Value} {cs : List Value} {x : List Gp} (h : CpS d w1 kz kP kC kF kR kB vP vC vF vR vB cP cC cF cR cB W) (ho : wz.ownsRow w1.heap.size 66 1 v' (cC.length + 1) (cC.flatten ++ cs)) (hb : Below W.heap.size W W2) (hg : W2.grownBy wz vC.ownBlock) (hc : cs.length = 1)
    (hx : EC x cs W2) (hr : d.chains.take (kC + 1) = d.chains.take kC ++ [x]) : Blk wz kz #[.string d.start, .string d.layout, vP, vC, vF, vR, vB] 28 ∧ CpS d w1 kz kP (kC + 1) kF kR kB vP v' vF vR vB cP (cC ++ [cs]) cF cR cB (wz.setCell ⟨kz, 3, none⟩ v') := by
  have h2 := h.below hb
  have hgw := hg
  have hne : some kz ≠ vC.ownBlock := h2.y.own_ne h2.c.own (by decide)
  have hy := h2.y.grown hgw hne
  have ht : Touch W2 wz 66 := Touch.of_own h2.c.own hgw
  have ht2 : Touch wz (wz.setCell ⟨kz, 3, none⟩ v') 28 := Touch.set hy v'
  have hp := h2.c.push ho rfl hc ht (EC.st (by decide) (by decide)) hx
  refine ⟨hy, ⟨(h2.g.grown hgw h2.g.size (fun g hg => own_block_ge h2.c.own g hg)).setCell (by have := h.z; simp only; omega) _, h.z, hy.set 3 v', ?_, ?_, ?_, ?_, ?_⟩⟩
  · exact (h2.p.touch ht (by decide) (EP.st (by decide))).touch ht2 (by decide) (EP.st (by decide))
  · rw [hr]; exact hp.touch ht2 (by decide) (EC.st (by decide) (by decide))
  · exact (h2.f.touch ht (by decide) (EF.st)).touch ht2 (by decide) (EF.st)
  · exact (h2.r.touch ht (by decide) (ER.st)).touch ht2 (by decide) (ER.st)
  · exact (h2.b.touch ht (by decide) (EB.st (by decide))).touch ht2 (by decide) (EB.st (by decide))
theorem CpS.pushF {d : Df} {w1 : World} {kz kP kC kF kR kB : Nat} {vP vC vF vR vB : Value} {cP cC cF cR cB : List (List Value)} {W : World} {W2 wz : World} {v' : Value} {cs : List Value} {x : Fl} (h : CpS d w1 kz kP kC kF kR kB vP vC vF vR vB cP cC cF cR cB W) (ho : wz.ownsRow w1.heap.size 48 5 v' (cF.length + 1) (cF.flatten ++ cs)) (hb : Below W.heap.size W W2) (hg : W2.grownBy wz vF.ownBlock) (hc : cs.length = 5)
    (hx : EF x cs W2) (hr : d.follows.take (kF + 1) = d.follows.take kF ++ [x]) : Blk wz kz #[.string d.start, .string d.layout, vP, vC, vF, vR, vB] 28 ∧ CpS d w1 kz kP kC (kF + 1) kR kB vP vC v' vR vB cP cC (cF ++ [cs]) cR cB (wz.setCell ⟨kz, 4, none⟩ v') := by
  have h2 := h.below hb
  have hgw := hg
  have hne : some kz ≠ vF.ownBlock := h2.y.own_ne h2.f.own (by decide)
  have hy := h2.y.grown hgw hne
  have ht : Touch W2 wz 48 := Touch.of_own h2.f.own hgw
  have ht2 : Touch wz (wz.setCell ⟨kz, 4, none⟩ v') 28 := Touch.set hy v'
  have hp := h2.f.push ho rfl hc ht (EF.st) hx
  refine ⟨hy, ⟨(h2.g.grown hgw h2.g.size (fun g hg => own_block_ge h2.f.own g hg)).setCell (by have := h.z; simp only; omega) _, h.z, hy.set 4 v', ?_, ?_, ?_, ?_, ?_⟩⟩
  · exact (h2.p.touch ht (by decide) (EP.st (by decide))).touch ht2 (by decide) (EP.st (by decide))
  · exact (h2.c.touch ht (by decide) (EC.st (by decide) (by decide))).touch ht2 (by decide) (EC.st (by decide) (by decide))
  · rw [hr]; exact hp.touch ht2 (by decide) (EF.st)
  · exact (h2.r.touch ht (by decide) (ER.st)).touch ht2 (by decide) (ER.st)
  · exact (h2.b.touch ht (by decide) (EB.st (by decide))).touch ht2 (by decide) (EB.st (by decide))
theorem CpS.pushR {d : Df} {w1 : World} {kz kP kC kF kR kB : Nat} {vP vC vF vR vB : Value} {cP cC cF cR cB : List (List Value)} {W : World} {W2 wz : World} {v' : Value} {cs : List Value} {x : Rj} (h : CpS d w1 kz kP kC kF kR kB vP vC vF vR vB cP cC cF cR cB W) (ho : wz.ownsRow w1.heap.size 50 2 v' (cR.length + 1) (cR.flatten ++ cs)) (hb : Below W.heap.size W W2) (hg : W2.grownBy wz vR.ownBlock) (hc : cs.length = 2)
    (hx : ER x cs W2) (hr : d.rejects.take (kR + 1) = d.rejects.take kR ++ [x]) : Blk wz kz #[.string d.start, .string d.layout, vP, vC, vF, vR, vB] 28 ∧ CpS d w1 kz kP kC kF (kR + 1) kB vP vC vF v' vB cP cC cF (cR ++ [cs]) cB (wz.setCell ⟨kz, 5, none⟩ v') := by
  have h2 := h.below hb
  have hgw := hg
  have hne : some kz ≠ vR.ownBlock := h2.y.own_ne h2.r.own (by decide)
  have hy := h2.y.grown hgw hne
  have ht : Touch W2 wz 50 := Touch.of_own h2.r.own hgw
  have ht2 : Touch wz (wz.setCell ⟨kz, 5, none⟩ v') 28 := Touch.set hy v'
  have hp := h2.r.push ho rfl hc ht (ER.st) hx
  refine ⟨hy, ⟨(h2.g.grown hgw h2.g.size (fun g hg => own_block_ge h2.r.own g hg)).setCell (by have := h.z; simp only; omega) _, h.z, hy.set 5 v', ?_, ?_, ?_, ?_, ?_⟩⟩
  · exact (h2.p.touch ht (by decide) (EP.st (by decide))).touch ht2 (by decide) (EP.st (by decide))
  · exact (h2.c.touch ht (by decide) (EC.st (by decide) (by decide))).touch ht2 (by decide) (EC.st (by decide) (by decide))
  · exact (h2.f.touch ht (by decide) (EF.st)).touch ht2 (by decide) (EF.st)
  · rw [hr]; exact hp.touch ht2 (by decide) (ER.st)
  · exact (h2.b.touch ht (by decide) (EB.st (by decide))).touch ht2 (by decide) (EB.st (by decide))
theorem CpS.pushB {d : Df} {w1 : World} {kz kP kC kF kR kB : Nat} {vP vC vF vR vB : Value} {cP cC cF cR cB : List (List Value)} {W : World} {W2 wz : World} {v' : Value} {cs : List Value} {x : Bx} (h : CpS d w1 kz kP kC kF kR kB vP vC vF vR vB cP cC cF cR cB W) (ho : wz.ownsRow w1.heap.size 53 2 v' (cB.length + 1) (cB.flatten ++ cs)) (hb : Below W.heap.size W W2) (hg : W2.grownBy wz vB.ownBlock) (hc : cs.length = 2)
    (hx : EB x cs W2) (hr : d.boxes.take (kB + 1) = d.boxes.take kB ++ [x]) : Blk wz kz #[.string d.start, .string d.layout, vP, vC, vF, vR, vB] 28 ∧ CpS d w1 kz kP kC kF kR (kB + 1) vP vC vF vR v' cP cC cF cR (cB ++ [cs]) (wz.setCell ⟨kz, 6, none⟩ v') := by
  have h2 := h.below hb
  have hgw := hg
  have hne : some kz ≠ vB.ownBlock := h2.y.own_ne h2.b.own (by decide)
  have hy := h2.y.grown hgw hne
  have ht : Touch W2 wz 53 := Touch.of_own h2.b.own hgw
  have ht2 : Touch wz (wz.setCell ⟨kz, 6, none⟩ v') 28 := Touch.set hy v'
  have hp := h2.b.push ho rfl hc ht (EB.st (by decide)) hx
  refine ⟨hy, ⟨(h2.g.grown hgw h2.g.size (fun g hg => own_block_ge h2.b.own g hg)).setCell (by have := h.z; simp only; omega) _, h.z, hy.set 6 v', ?_, ?_, ?_, ?_, ?_⟩⟩
  · exact (h2.p.touch ht (by decide) (EP.st (by decide))).touch ht2 (by decide) (EP.st (by decide))
  · exact (h2.c.touch ht (by decide) (EC.st (by decide) (by decide))).touch ht2 (by decide) (EC.st (by decide) (by decide))
  · exact (h2.f.touch ht (by decide) (EF.st)).touch ht2 (by decide) (EF.st)
  · exact (h2.r.touch ht (by decide) (ER.st)).touch ht2 (by decide) (ER.st)
  · rw [hr]; exact hp.touch ht2 (by decide) (EB.st (by decide))
def rjC (r : Rj) : List Value := [.string r.sort, .string r.by_]
theorem CpS.allF {d : Df} {w1 : World} {kz kP kC kF kR kB : Nat} {vP vC vF vR vB : Value} {cP cC cF cR cB : List (List Value)} {W : World} {wz : World} {v' : Value} (h : CpS d w1 kz kP kC 0 kR kB vP vC (.slice none 0 0) vR vB cP cC [] cR cB W) (ho : wz.ownsRow w1.heap.size 48 5 v' d.follows.length (d.follows.flatMap flC)) (hg : W.grownBy wz none) (hok : ∀ x ∈ d.follows, x.ok) : Blk wz kz #[.string d.start, .string d.layout, vP, vC, .slice none 0 0, vR, vB] 28 ∧ CpS d w1 kz kP kC d.follows.length kR kB vP vC v' vR vB cP cC (d.follows.map flC) cR cB (wz.setCell ⟨kz, 4, none⟩ v') := by
  have hb : Below W.heap.size W wz := ⟨hg.os, hg.tape, hg.output, hg.size, fun k hk => hg.block k hk (by simp)⟩
  have h2 := h.below hb
  have hy := h2.y
  have ht2 : Touch wz (wz.setCell ⟨kz, 4, none⟩ v') 28 := Touch.set hy v'
  have ho2 := ht2.own ho (by decide)
  refine ⟨hy, ⟨h2.g.setCell (by have := h.z; simp only; omega) _, h.z, hy.set 4 v', ?_, ?_, ?_, ?_, ?_⟩⟩
  · exact h2.p.touch ht2 (by decide) (EP.st (by decide))
  · exact h2.c.touch ht2 (by decide) (EC.st (by decide) (by decide))
  · rw [List.take_length]
    refine ⟨by rw [List.length_map, ← List.flatMap_def]; exact ho2, by simp, fun cs hcs => ?_, fun i h1 h3 => ⟨by rw [List.getElem_map], hok _ (List.getElem_mem h3)⟩⟩
    obtain ⟨s, _, rfl⟩ := List.mem_map.1 hcs; rfl
  · exact h2.r.touch ht2 (by decide) (ER.st)
  · exact h2.b.touch ht2 (by decide) (EB.st (by decide))
theorem CpS.allR {d : Df} {w1 : World} {kz kP kC kF kR kB : Nat} {vP vC vF vR vB : Value} {cP cC cF cR cB : List (List Value)} {W : World} {wz : World} {v' : Value} (h : CpS d w1 kz kP kC kF 0 kB vP vC vF (.slice none 0 0) vB cP cC cF [] cB W) (ho : wz.ownsRow w1.heap.size 50 2 v' d.rejects.length (d.rejects.flatMap rjC)) (hg : W.grownBy wz none) (hok : ∀ x ∈ d.rejects, x.ok) : Blk wz kz #[.string d.start, .string d.layout, vP, vC, vF, .slice none 0 0, vB] 28 ∧ CpS d w1 kz kP kC kF d.rejects.length kB vP vC vF v' vB cP cC cF (d.rejects.map rjC) cB (wz.setCell ⟨kz, 5, none⟩ v') := by
  have hb : Below W.heap.size W wz := ⟨hg.os, hg.tape, hg.output, hg.size, fun k hk => hg.block k hk (by simp)⟩
  have h2 := h.below hb
  have hy := h2.y
  have ht2 : Touch wz (wz.setCell ⟨kz, 5, none⟩ v') 28 := Touch.set hy v'
  have ho2 := ht2.own ho (by decide)
  refine ⟨hy, ⟨h2.g.setCell (by have := h.z; simp only; omega) _, h.z, hy.set 5 v', ?_, ?_, ?_, ?_, ?_⟩⟩
  · exact h2.p.touch ht2 (by decide) (EP.st (by decide))
  · exact h2.c.touch ht2 (by decide) (EC.st (by decide) (by decide))
  · exact h2.f.touch ht2 (by decide) (EF.st)
  · rw [List.take_length]
    refine ⟨by rw [List.length_map, ← List.flatMap_def]; exact ho2, by simp, fun cs hcs => ?_, fun i h1 h3 => ⟨by rw [List.getElem_map]; rfl, hok _ (List.getElem_mem h3)⟩⟩
    obtain ⟨s, _, rfl⟩ := List.mem_map.1 hcs; rfl
  · exact h2.b.touch ht2 (by decide) (EB.st (by decide))
theorem CpS.drew {d : Df} {w1 : World} {kz kP kC kF kR kB : Nat} {vP vC vF vR vB : Value} {cP cC cF cR cB : List (List Value)} {W : World} (h : CpS d w1 kz kP kC kF kR kB vP vC vF vR vB cP cC cF cR cB W) : CpS d w1 kz kP kC kF kR kB vP vC vF vR vB cP cC cF cR cB W.drew := h.below (Below.refl W.heap.size W).drew
end Go.Proofs.Ytalicfpcmcbdbaa

set_option linter.unusedVariables false
set_option linter.unusedSimpArgs false
set_option linter.unnecessarySimpa false
set_option linter.deprecated false
namespace Go.Proofs.Ytalicfpcmcbdbaa
open Go.RowKit

/-- A copy of a definition, all in memory of one's own. -/
structure Cpd (d : Df) (B : Nat) (vP vC vF vR vB : Value) (cP cC cF cR cB : List (List Value)) (W : World) : Prop where
  p : OwnE EP B 38 5 d.prods vP cP W
  c : OwnE EC B 66 1 d.chains vC cC W
  f : OwnE EF B 48 5 d.follows vF cF W
  r : OwnE ER B 50 2 d.rejects vR cR W
  b : OwnE EB B 53 2 d.boxes vB cB W
theorem CpS.fin {d : Df} {vP vC vF vR vB : Value} {cP cC cF cR cB : List (List Value)} {W : World} {w1 : World} {kz : Nat} (h : CpS d w1 kz d.prods.length d.chains.length d.follows.length d.rejects.length d.boxes.length vP vC vF vR vB cP cC cF cR cB W) : Cpd d w1.heap.size vP vC vF vR vB cP cC cF cR cB W := by
  have hp := h.p
  rw [List.take_length] at hp
  have hc := h.c
  rw [List.take_length] at hc
  have hf := h.f
  rw [List.take_length] at hf
  have hr := h.r
  rw [List.take_length] at hr
  have hb := h.b
  rw [List.take_length] at hb
  exact ⟨hp, hc, hf, hr, hb⟩
theorem Cpd.touch {d : Df} {vP vC vF vR vB : Value} {cP cC cF cR cB : List (List Value)} {W : World} {B : Nat} {W' : World} (h : Cpd d B vP vC vF vR vB cP cC cF cR cB W) (ht : Touch W W' 28) : Cpd d B vP vC vF vR vB cP cC cF cR cB W' :=
  ⟨h.p.touch ht (by decide) (EP.st (by decide)), h.c.touch ht (by decide) (EC.st (by decide) (by decide)), h.f.touch ht (by decide) (EF.st), h.r.touch ht (by decide) (ER.st), h.b.touch ht (by decide) (EB.st (by decide))⟩
theorem Cpd.base {d : Df} {vP vC vF vR vB : Value} {cP cC cF cR cB : List (List Value)} {W : World} {B B' : Nat} (h : Cpd d B vP vC vF vR vB cP cC cF cR cB W) (hB : B' ≤ B) : Cpd d B' vP vC vF vR vB cP cC cF cR cB W := ⟨h.p.base hB, h.c.base hB, h.f.base hB, h.r.base hB, h.b.base hB⟩
theorem Cpd.below {d : Df} {vP vC vF vR vB : Value} {cP cC cF cR cB : List (List Value)} {W : World} {B : Nat} {W' : World} (h : Cpd d B vP vC vF vR vB cP cC cF cR cB W) (hb : Below W.heap.size W W') : Cpd d B vP vC vF vR vB cP cC cF cR cB W' := h.touch (Touch.of_below hb)
/-- It reads as the definition. -/
theorem Cpd.rd {d : Df} {vP vC vF vR vB : Value} {cP cC cF cR cB : List (List Value)} {W : World} {B : Nat} (h : Cpd d B vP vC vF vR vB cP cC cF cR cB W) (hf : FitD d) (hs : short d.start) (hl : short d.layout) : ∃ a2 c2 a3 c3 a4 c4 a5 c5 a6 c6, vP = .slice a2 d.prods.length c2 ∧ vC = .slice a3 d.chains.length c3 ∧ vF = .slice a4 d.follows.length c4 ∧ vR = .slice a5 d.rejects.length c5 ∧ vB = .slice a6 d.boxes.length c6 ∧ RD d ⟨a2, c2, a3, c3, a4, c4, a5, c5, a6, c6⟩ W := by
  obtain ⟨a2, c2, rfl, h2, _⟩ := h.p.row (At := PdAt) (fun x hx cs b o he hc => he.at hc (by have := hf.s.sl x hx; omega)) (by have := hf.s.pl; omega)
  obtain ⟨a3, c3, rfl, h3, _⟩ := h.c.row (At := ChAt) (fun x hx cs b o he hc => he.at hc (by have := hf.gl x hx; omega) (fun g hg => by have := hf.nl x hx g hg; omega)) (by have := hf.cl; omega)
  obtain ⟨a4, c4, rfl, h4, _⟩ := h.f.row (At := FlAt) (fun x _ cs b o he hc => ⟨he.2, by rw [← he.1]; exact hc⟩) (by have := hf.s.rl; omega)
  obtain ⟨a5, c5, rfl, h5, hq⟩ := h.r.row (At := RjAt) (fun x _ cs b o he hc => ⟨he.2, by rw [← he.1]; exact hc⟩) (by have := hf.s.rl; omega)
  obtain ⟨a6, c6, rfl, h6, _⟩ := h.b.row (At := BxAt) (fun x hx cs b o he hc => he.at hc (hf.bx x hx)) (by have := hf.s.bl; omega)
  exact ⟨a2, c2, a3, c3, a4, c4, a5, c5, a6, c6, rfl, rfl, rfl, rfl, rfl, hs, hl, h2, h3, h4, h5, h6, hq⟩
def set7 (W : World) (g : Nat) (x0 x1 x2 x3 x4 x5 x6 : Value) : World := ((((((W.setCell ⟨g, 0, none⟩ x0).setCell ⟨g, 1, none⟩ x1).setCell ⟨g, 2, none⟩ x2).setCell ⟨g, 3, none⟩ x3).setCell ⟨g, 4, none⟩ x4).setCell ⟨g, 5, none⟩ x5).setCell ⟨g, 6, none⟩ x6
theorem set7_blk {W : World} {g : Nat} {y0 y1 y2 y3 y4 y5 y6 : Value} (x0 x1 x2 x3 x4 x5 x6 : Value) (hb : Blk W g #[y0, y1, y2, y3, y4, y5, y6] 28) : Blk (set7 W g x0 x1 x2 x3 x4 x5 x6) g #[x0, x1, x2, x3, x4, x5, x6] 28 := by
  have h := ((((((hb.set 0 x0).set 1 x1).set 2 x2).set 3 x3).set 4 x4).set 5 x5).set 6 x6
  unfold set7
  simp only [List.setIfInBounds_toArray, List.set_cons_zero, List.set_cons_succ] at h
  exact h
theorem set7_touch {W : World} {g : Nat} {c : Array Value} (x0 x1 x2 x3 x4 x5 x6 : Value) (hb : Blk W g c 28) {d : Df} {vP vC vF vR vB : Value} {cP cC cF cR cB : List (List Value)} {B : Nat} (h : Cpd d B vP vC vF vR vB cP cC cF cR cB W) : Cpd d B vP vC vF vR vB cP cC cF cR cB (set7 W g x0 x1 x2 x3 x4 x5 x6) := by
  have b0 := hb.set 0 x0
  have b1 := b0.set 1 x1
  have b2 := b1.set 2 x2
  have b3 := b2.set 3 x3
  have b4 := b3.set 4 x4
  have b5 := b4.set 5 x5
  have h0 := h.touch (Touch.set (i := 0) hb x0)
  have h1 := h0.touch (Touch.set (i := 1) b0 x1)
  have h2 := h1.touch (Touch.set (i := 2) b1 x2)
  have h3 := h2.touch (Touch.set (i := 3) b2 x3)
  have h4 := h3.touch (Touch.set (i := 4) b3 x4)
  have h5 := h4.touch (Touch.set (i := 5) b4 x5)
  have h6 := h5.touch (Touch.set (i := 6) b5 x6)
  unfold set7
  exact h6
theorem set7_below {W w : World} {g B : Nat} (x0 x1 x2 x3 x4 x5 x6 : Value) (h : Below B w W) (hg : B ≤ g) : Below B w (set7 W g x0 x1 x2 x3 x4 x5 x6) :=
  ((((((h.setCell hg x0).setCell hg x1).setCell hg x2).setCell hg x3).setCell hg x4).setCell hg x5).setCell hg x6
theorem ret13 {R : Ending → World → Prop} {a : Act} {W : World} {k : Nat} {x0 x1 x2 x3 x4 x5 x6 : Value} (h4 : (a.tmps[2]?).getD undef = .pointer (some ⟨k, 0, none⟩)) (hd : a.defers = []) (hb : Blk W k #[x0, x1, x2, x3, x4, x5, x6] 28) (hR : R (.returned (.agg #[x0, x1, x2, x3, x4, x5, x6])) W) : bodyPost Try.prog Try.f13 R .ret a W := by
  have f0 : W.cell? ⟨k, 0, none⟩ = some x0 := hb.cell 0
  have f1 : W.cell? ⟨k, 1, none⟩ = some x1 := hb.cell 1
  have f2 : W.cell? ⟨k, 2, none⟩ = some x2 := hb.cell 2
  have f3 : W.cell? ⟨k, 3, none⟩ = some x3 := hb.cell 3
  have f4 : W.cell? ⟨k, 4, none⟩ = some x4 := hb.cell 4
  have f5 : W.cell? ⟨k, 5, none⟩ = some x5 := hb.cell 5
  have f6 : W.cell? ⟨k, 6, none⟩ = some x6 := hb.cell 6
  refine ⟨hd, .agg #[x0, x1, x2, x3, x4, x5, x6], ?_, hR⟩
  simp [results, Try.results13, h4, go_sem, f0, f1, f2, f3, f4, f5, f6, Try.isAgg28, Try.sizeOf28]
/-- What Copy answers. -/
def CpyP (d : Df) (w : World) (e : Ending) (w' : World) : Prop := ∃ vP vC vF vR vB cP cC cF cR cB, e = .returned (.agg #[.string d.start, .string d.layout, vP, vC, vF, vR, vB]) ∧ Hid (Cpd d w.heap.size vP vC vF vR vB cP cC cF cR cB w') ∧ Below w.heap.size w w'
end Go.Proofs.Ytalicfpcmcbdbaa

set_option linter.unusedVariables false
set_option linter.unusedSimpArgs false
set_option linter.unnecessarySimpa false
set_option linter.deprecated false
namespace Go.Proofs.Ytalicfpcmcbdbaa
open Go.RowKit

theorem rI_lt : ∀ (x : It) (m k : Int), rI x m = some k → k + 1 ≤ m ∧ 0 ≤ k
  | .mk kd t n l, m, k, h => by
    have h1 := rI_le (.mk kd t n l) m k h
    rw [rI] at h
    split at h
    · have := rI_le.rIs_le l (m - 1) k h
      omega
    · cases h
theorem rIs_len : ∀ (l : List It) (m k : Int), rIs l m = some k → k + (l.length : Int) ≤ m
  | [], m, k, h => by rw [rIs] at h; injection h with h; simp; omega
  | x :: xs, m, k, h => by
    rw [rIs] at h
    split at h
    · cases h
    · rename_i j hj
      have h1 := rI_lt x m j hj
      have h2 := rIs_len xs j k h
      simp only [List.length_cons]
      omega
theorem rIs_mem : ∀ (l : List It) (m k : Int), rIs l m = some k → m ≤ 64 → ∀ x ∈ l, ∃ m' k', rI x m' = some k' ∧ m' ≤ 64
  | [], m, k, h, _, x, hx => by cases hx
  | y :: ys, m, k, h, hm, x, hx => by
    rw [rIs] at h
    split at h
    · cases h
    · rename_i j hj
      have h1 := rI_lt y m j hj
      rcases List.mem_cons.1 hx with rfl | hx
      · exact ⟨m, j, hj, hm⟩
      · exact rIs_mem ys j k h (by omega) x hx
theorem fit_all : ∀ (N : Nat) (x : It), SizeOf.sizeOf x < N → ∀ (m k : Int), rI x m = some k → m ≤ 64 → FitI x := by
  intro N
  induction N with
  | zero => intro x h; exact absurd h (Nat.not_lt_zero _)
  | succ N ih =>
    rintro ⟨kd, t, n, l⟩ hN m k h hm
    have h1 := rI_lt _ m k h
    have hh := h
    rw [rI] at hh
    split at hh
    · have h2 := rIs_len l (m - 1) k hh
      refine .mk _ (by show l.length * 56 ≤ _; omega) (fun y hy => ?_)
      obtain ⟨m', k', h3, h4⟩ := rIs_mem l (m - 1) k hh (by omega) y hy
      exact ih y (by
        have h5 := sizeOf_kids (.mk kd t n l)
        have h6 := List.sizeOf_lt_of_mem hy
        have h7 : SizeOf.sizeOf (It.mk kd t n l).kids = SizeOf.sizeOf l := rfl
        omega) m' k' h3 h4
    · cases hh
theorem OkD.fit {d : Df} (h : OkD d) : ∀ x ∈ d.boxes, FitIs x.items := fun x hx => by
  have hf := h.form
  unfold rightDfB at hf
  simp only [Bool.and_eq_true] at hf
  have hb := List.all_eq_true.1 hf.2.2.2.2.2.2.2 x hx
  unfold rightBxB at hb
  rw [Bool.and_eq_true] at hb
  obtain ⟨k, hk⟩ := Option.isSome_iff_exists.1 hb.2
  have hl := rIs_len x.items 64 k hk
  have hk0 := (rI_le.rIs_le x.items 64 k hk).2 (by decide)
  refine ⟨by omega, fun y hy => ?_⟩
  obtain ⟨m', k', h3, h4⟩ := rIs_mem x.items 64 k hk (by decide) y hy
  exact fit_all _ y (Nat.lt_succ_self _) m' k' h3 h4
theorem tot_fit {d : Df} (h : totD d ≤ 400) (hb : ∀ x ∈ d.boxes, FitIs x.items) : FitD d := by
  have hs := tot_small h
  rw [totD_eq] at h
  unfold base0 at h
  refine ⟨hs, by omega, fun ch hc => ?_, fun ch hc g hg => ?_, hb⟩
  · have := sum_ge chW d.chains ch hc
    have e : chW ch = ch.length + consN ch ch.length := rfl
    omega
  · have := sum_ge chW d.chains ch hc
    have e : chW ch = ch.length + consN ch ch.length := rfl
    have h2 := sum_ge (fun g : Gp => g.cons.length) ch g hg
    unfold consN at e
    rw [List.take_length] at e
    omega
end Go.Proofs.Ytalicfpcmcbdbaa

set_option linter.unusedVariables false
set_option linter.unusedSimpArgs false
set_option linter.unnecessarySimpa false
set_option linter.deprecated false
namespace Go.Proofs.Ytalicfpcmcbdbaa
open Go.RowKit

/-- Is an item one of a template's leaves (an indent that is too great counts as one). -/
def leafB (kd n : Int) : Bool := decide (kd = 1) || decide (kd = 2) || (decide (kd = 5) && decide (40 < n))
mutual
def lvI : It → List It
  | .mk kd t n l => (if leafB kd n = true then [.mk kd t n []] else []) ++ lvIs l
def lvIs : List It → List It
  | [] => []
  | x :: xs => lvI x ++ lvIs xs
end
def lfC (x : It) : List Value := [.int .i64 x.kind, .string x.text, .int .i64 x.num, .slice none 0 0]
def lfsC (l : List It) : List Value := l.flatMap lfC
theorem lvIs_app : ∀ (l1 l2 : List It), lvIs (l1 ++ l2) = lvIs l1 ++ lvIs l2
  | [], l2 => by rw [List.nil_append, lvIs, List.nil_append]
  | x :: l1, l2 => by rw [List.cons_append, lvIs, lvIs, lvIs_app l1 l2, List.append_assoc]
theorem lvI_len : ∀ (x : It) (m k : Int), rI x m = some k → ((lvI x).length : Int) + k ≤ m
  | .mk kd t n l, m, k, h => by
    rw [rI] at h
    split at h
    · have := lvIs_len l (m - 1) k h
      rw [lvI, List.length_append]
      have : (if leafB kd n = true then [It.mk kd t n []] else []).length ≤ 1 := by split <;> simp
      push_cast
      omega
    · cases h
where lvIs_len : ∀ (l : List It) (m k : Int), rIs l m = some k → ((lvIs l).length : Int) + k ≤ m
  | [], m, k, h => by rw [rIs] at h; injection h with h; rw [lvIs]; simp; omega
  | x :: xs, m, k, h => by
    rw [rIs] at h
    split at h
    · cases h
    · rename_i j hj
      have h1 := lvI_len x m j hj
      have h2 := lvIs_len xs j k h
      rw [lvIs, List.length_append]
      push_cast
      omega
/-- Items that are right, for at most so many. -/
def Rit (l : List It) : Prop := ∃ m k, rIs l m = some k ∧ 0 ≤ m ∧ m ≤ 64
theorem Rit.len {l : List It} (h : Rit l) : (lvIs l).length ≤ 64 := by
  obtain ⟨m, k, h1, h2, h3⟩ := h
  have := lvI_len.lvIs_len l m k h1
  have := (rI_le.rIs_le l m k h1).2 h2
  omega
theorem rIs_mem0 : ∀ (l : List It) (m k : Int), rIs l m = some k → 0 ≤ m → m ≤ 64 → ∀ x ∈ l, ∃ m' k', rI x m' = some k' ∧ 0 ≤ m' ∧ m' ≤ 64
  | [], m, k, h, _, _, x, hx => by cases hx
  | y :: ys, m, k, h, h0, hm, x, hx => by
    rw [rIs] at h
    split at h
    · cases h
    · rename_i j hj
      have h1 := rI_lt y m j hj
      rcases List.mem_cons.1 hx with rfl | hx
      · exact ⟨m, j, hj, h0, hm⟩
      · exact rIs_mem0 ys j k h (by omega) (by omega) x hx
theorem Rit.kids {l : List It} (h : Rit l) {x : It} (hx : x ∈ l) : Rit x.kids := by
  obtain ⟨m, k, h1, h2, h3⟩ := h
  obtain ⟨m', k', h4, h5, h6⟩ := rIs_mem0 l m k h1 h2 h3 x hx
  have h7 := rI_lt x m' k' h4
  obtain ⟨kd, t, n, kids⟩ := x
  rw [rI] at h4
  split at h4
  · exact ⟨m' - 1, k', h4, by omega, by omega⟩
  · cases h4
/-- A leaf as it lies in memory. -/
def okLf (x : It) : Prop := i64 x.kind ∧ short x.text ∧ i64 x.num ∧ x.kids = []
theorem lfC_len (x : It) : (lfC x).length = 4 := rfl
theorem lfsC_len (l : List It) : (lfsC l).length = l.length * 4 := by
  unfold lfsC
  induction l with
  | nil => rfl
  | cons x l ih => rw [List.flatMap_cons, List.length_append, ih, lfC_len, List.length_cons]; omega
theorem lfsC_one (l : List It) : ∀ u ∈ lfsC l, u.oneCell' = true := by
  intro u hu
  unfold lfsC at hu
  obtain ⟨x, _, hx⟩ := List.mem_flatMap.1 hu
  unfold lfC at hx
  simp at hx
  rcases hx with rfl | rfl | rfl | rfl <;> rfl
theorem own_srcs {W : World} {B n size : Nat} {e : TypeId} {a : Option Addr} {c : Nat} {xs : List Value} (h : W.ownsRow B e size (.slice a n c) n xs) : Srcs a n xs W := by
  by_cases h0 : n = 0
  · have hx : xs = [] := List.eq_nil_of_length_eq_zero (by rw [h.1, h0, Nat.zero_mul])
    cases a with
    | none => exact Or.inl ⟨rfl, h0, hx⟩
    | some ad => exact Or.inr ⟨ad, rfl, fun j u hj => by rw [hx] at hj; simp at hj⟩
  · obtain ⟨a', c', hv, hg⟩ := own_shape h
    injection hv with h1 _ _
    obtain ⟨g, h2, _, _, h3⟩ := hg h0
    refine Or.inr ⟨⟨g, 0, none⟩, by rw [h1, h2], fun j u hj => ?_⟩
    rw [show (⟨g, 0, none⟩ : Addr).add j = ⟨g, j, none⟩ by unfold Addr.add; split <;> simp_all]
    exact h3 j u hj
/-- What Leaves answers. -/
def LvP (w : World) (l : List It) (e : Ending) (w' : World) : Prop := ∃ a c, e = .returned (.slice a (lvIs l).length c) ∧ Hid (w'.ownsRow w.heap.size 96 4 (.slice a (lvIs l).length c) (lvIs l).length (lfsC (lvIs l)) ∧ (∀ x ∈ lvIs l, okLf x) ∧ Below w.heap.size w w')
set_option maxHeartbeats 800000 in
set_option maxRecDepth 100000 in
theorem leaves_all : ∀ (N : Nat) (l : List It), SizeOf.sizeOf l < N → Rit l → ∀ (a : Option Addr) (c : Nat) (w : World), Row ItAt 4 l a w →
    Calls Try.prog 81 #[.slice a l.length c] w (LvP w l) := by
  intro N
  induction N with
  | zero => intro l h; exact absurd h (Nat.not_lt_zero _)
  | succ N ih =>
    intro l hN hrit a c w hr
    obtain ⟨i0, hi, hz0, hz1, hz2⟩ := info_parts info96
    have HR := hide hr
    have HN := hide hN
    have IH := hide ih
    have HRT := hide hrit
    have hln := hr.1
    clear hr hN ih hrit
    go_enter Try.func81, Try.ntmps81
    go_wp2_with fail
    go_loopg [3, 4] l.length (fun u v3 v4 wr => ∃ (k : Nat), Hid (u = l.length - k) ∧ v4 = .int .i64 (k : Int) ∧ Hid (k ≤ l.length ∧ Below w.heap.size w wr ∧ wr.ownsRow w.heap.size 96 4 v3 (lvIs (l.take k)).length (lfsC (lvIs (l.take k))) ∧ (∀ x ∈ lvIs (l.take k), okLf x)))
    case atStart => exact ⟨0, hide rfl, rfl, hide ⟨Nat.zero_le _, Below.refl _ _, by rw [List.take_zero, lvIs]; exact World.ownsRow_nil _ _ _ _, fun x hx => by rw [List.take_zero, lvIs] at hx; cases hx⟩⟩
    case round =>
      obtain ⟨k, hu, rfl, hh⟩ := hrel
      have hkl := hh.out.1
      by_cases hlt : k < l.length
      · have hlti : (k : Int) < (l.length : Int) := by omega
        obtain ⟨b, o, rfl, hb0, hat0⟩ := HR.out.get hlt
        have hx0 := hat0 k hlt
        have hx := ItAt.stable _ _ _ _ _ hh.out.2.1 hb0 hx0
        have hb := Nat.lt_of_lt_of_le hb0 hh.out.2.1.size
        have HB0L := hide hb0
        have HLV := hide (show lvIs (l.take (k + 1)) = lvIs (l.take k) ++ lvI l[k] by rw [take_snoc l k hlt, lvIs_app, lvIs, lvIs, List.append_nil])
        have HL64 := hide (show (lvIs (l.take (k + 1))).length ≤ 64 by
          have h1 := HRT.out.len
          rw [← List.take_append_drop (k + 1) l, lvIs_app, List.length_append] at h1
          omega)
        have hsz : SizeOf.sizeOf l[k].kids < N := by
          have h1 := sizeOf_kids l[k]
          have h2 := List.sizeOf_lt_of_mem (List.getElem_mem hlt)
          have := HN.out
          omega
        have HFX := hide (HRT.out.kids (List.getElem_mem hlt))
        obtain ⟨X, hX⟩ : ∃ X, lvIs (l.take k) = X := ⟨_, rfl⟩
        rw [hX] at HLV
        have HOX := hide (show wr.ownsRow w.heap.size 96 4 _ X.length (lfsC X) by rw [← hX]; exact hh.out.2.2.1)
        have HKX := hide (show ∀ x ∈ X, okLf x by rw [← hX]; exact hh.out.2.2.2)
        have HBR := hide hh.out.2.1
        generalize l[k] = x at hx hx0 hsz HFX HLV
        clear hat0 hh hX hb0
        obtain ⟨kd, t, n, kids⟩ := x
        obtain ⟨_, ak0, ck0, ⟨_, _, _, f3⟩, hrow0⟩ := hx0.cells
        obtain ⟨⟨hk1, ht1, hn1⟩, ak, ck, ⟨e0, e1, e2, e3⟩, hrow⟩ := hx.cells
        replace e0 : wr.cell? ⟨b, o + k * 4, none⟩ = some (.int .i64 kd) := e0
        replace e1 : wr.cell? ⟨b, o + k * 4 + 1, none⟩ = some (.string t) := e1
        replace e2 : wr.cell? ⟨b, o + k * 4 + 2, none⟩ = some (.int .i64 n) := e2
        replace e3 : wr.cell? ⟨b, o + k * 4 + 3, none⟩ = some (.slice ak kids.length ck) := e3
        replace hsz : SizeOf.sizeOf kids < N := hsz
        have HOK := hide (show okLf (.mk kd t n []) from ⟨hk1, ht1, hn1, rfl⟩)
        have HRW := hide (show Row ItAt 4 kids ak wr from hrow)
        have HRW0 := hide (show Row ItAt 4 kids ak w from by
          have h1 := HBR.out.cell (p := ⟨b, o + k * 4 + 3, none⟩) HB0L.out
          rw [e3, f3] at h1
          injection h1 with h1
          injection h1 with h1 _ _
          rw [h1]; exact hrow0)
        have hkl2 := HRW.out.1
        replace HLV := hide (show lvIs (l.take (k + 1)) = (X ++ (if leafB kd n = true then [.mk kd t n []] else [])) ++ lvIs kids by rw [HLV.out, lvI, List.append_assoc])
        replace HFX := hide (show Rit kids from HFX.out)
        clear hx hx0 hrow hrow0 f3 hk1 ht1 hn1
        go_upto_region 6 with fail
        obtain ⟨ks, hks⟩ : ∃ ks, wr.heap.size = ks := ⟨_, rfl⟩
        obtain ⟨w6, h6⟩ : ∃ w6, wr.alloc (.cells #[.int .i64 kd, .string t, .int .i64 n, .slice ak kids.length ck] 96) = w6 := ⟨_, rfl⟩
        have hb6 := hide (show Below wr.heap.size wr w6 by rw [← h6]; exact NB.alloc (Below.refl _ _) _)
        have HS6 := hide (show Blk w6 ks #[.int .i64 kd, .string t, .int .i64 n, .slice ak kids.length ck] 96 by rw [← h6, ← hks]; exact Blk.new wr _ _)
        have HB6 := hide (below_next HBR.out hb6.out)
        have HO6 := hide (own_below HOX.out hb6.out)
        have HR6 := hide (HRW.out.below ItAt.stable hb6.out)
        have HKS := hide (show w.heap.size ≤ ks by rw [← hks]; exact HBR.out.size)
        have HLT := hide (fun g hg => (show g < ks by rw [← hks]; exact own_lt HOX.out g hg))
        rw [h6, hks]
        clear h6 hks e0 e1 e2 e3 hb hb6 HOX HRW
        have s0 := HS6.out.cell 0
        have s1 := HS6.out.cell 1
        have s2 := HS6.out.cell 2
        have sl := HS6.out.lt
        obtain ⟨lb, hlb⟩ : ∃ lb, leafB kd n = lb := ⟨_, rfl⟩
        rw [hlb] at HLV
        have HLB := hide hlb
        clear hlb
        go_cut [33] from 16 to 34 (fun v33 wc => v33 = .bool lb ∧ w6 = wc)
        case first =>
          have hlb : leafB kd n = lb := HLB.out
          by_cases h1 : kd = 1
          · have k1 : (kd == 1) = true := by rw [h1]; rfl
            obtain rfl : true = lb := by rw [← hlb]; unfold leafB; rw [decide_eq_true h1]; rfl
            clear h1 hlb
            go_wp2_with fail
            go_meet
            exact ⟨rfl, rfl⟩
          · have k1 : (kd == 1) = false := by simpa using h1
            by_cases h2 : kd = 2
            · have k2 : (kd == 2) = true := by rw [h2]; rfl
              obtain rfl : true = lb := by rw [← hlb]; unfold leafB; rw [decide_eq_true h2]; simp
              clear h1 h2 hlb
              go_wp2_with fail
              go_meet
              exact ⟨rfl, rfl⟩
            · have k2 : (kd == 2) = false := by simpa using h2
              by_cases h5 : kd = 5
              · have k5 : (kd == 5) = true := by rw [h5]; rfl
                by_cases h4 : 40 < n
                · have k4 : decide (n > 40) = true := decide_eq_true h4
                  obtain rfl : true = lb := by rw [← hlb]; unfold leafB; rw [decide_eq_true h5, decide_eq_true h4]; simp
                  clear h1 h2 h5 h4 hlb
                  go_wp2_with fail
                  go_meet
                  exact ⟨rfl, rfl⟩
                · have k4 : decide (n > 40) = false := decide_eq_false h4
                  obtain rfl : false = lb := by rw [← hlb]; unfold leafB; rw [decide_eq_false h1, decide_eq_false h2, decide_eq_false h4]; simp
                  clear h1 h2 h5 h4 hlb
                  go_wp2_with fail
                  go_meet
                  exact ⟨rfl, rfl⟩
              · have k5 : (kd == 5) = false := by simpa using h5
                obtain rfl : false = lb := by rw [← hlb]; unfold leafB; rw [decide_eq_false h1, decide_eq_false h2, decide_eq_false h5]; rfl
                clear h1 h2 h5 hlb
                go_wp2_with fail
                go_meet
                exact ⟨rfl, rfl⟩
        case rest =>
          obtain ⟨rfl, rfl⟩ := hcut
          obtain ⟨X2, hX2⟩ : ∃ X2, X ++ (if lb = true then [It.mk kd t n []] else []) = X2 := ⟨_, rfl⟩
          rw [hX2] at HLV
          have HX2 := hide hX2
          have HK2 := hide (show ∀ x ∈ X2, okLf x from fun x hx => by
            rw [← hX2] at hx
            rcases List.mem_append.1 hx with h | h
            · exact HKX.out x h
            · cases lb
              · cases h
              · simp at h; rw [h]; exact HOK.out)
          have HL2 := hide (show X2.length + (lvIs kids).length ≤ 64 by
            have := HL64.out
            rw [HLV.out, List.length_append] at this
            exact this)
          clear hX2
          go_upto_if 33 with fail
          go_cut [3] from 34 to 44 (fun v3 wc => Hid (Below w.heap.size w wc ∧ Blk wc ks #[.int .i64 kd, .string t, .int .i64 n, .slice ak kids.length ck] 96 ∧ wc.ownsRow w.heap.size 96 4 v3 X2.length (lfsC X2)))
          case first =>
            cases lb with
            | false =>
              have HE := hide (show X = X2 by have h := HX2.out; simpa using h)
              go_wp2_with fail
              go_meet
              exact hide ⟨HB6.out, HS6.out, by rw [← HE.out]; exact HO6.out⟩
            | true =>
              have HE := hide (show X ++ [It.mk kd t n []] = X2 by have h := HX2.out; simpa using h)
              have HSN := hide (show lfsC X2 = lfsC X ++ [.int .i64 kd, .string t, .int .i64 n, .slice none 0 0] ∧ X2.length = X.length + 1 by rw [← HE.out]; unfold lfsC; rw [List.flatMap_append]; exact ⟨rfl, by simp⟩)
              have hxl : X.length + 1 ≤ 64 := by have h1 := HL2.out; have h2 := HSN.out.2; omega
              have hwb := HB6.out.size
              go_wp2_with (at_builtin; refine wpList_append_own _ rfl _ _ 51 rfl w.heap.size 96 i0 _ 4 56 Try.underlying51 hi hz0 hz1 hz2 rfl (by decide) _ _ (lfsC X) rfl (HO6.out.alloc _) ⟨w6.heap.size, 0, none⟩ 1 1 [.int .i64 kd, .string t, .int .i64 n, .slice none 0 0] rfl rfl (cells_new _ [.int .i64 kd, .string t, .int .i64 n, .slice none 0 0] 96) (by simp [Value.oneCell']) (by unfold maxLen; omega) (by omega) (by simp; omega) ?_)
              intro v' w9 hown' hgrow _
              have hb9 := HB6.out.alloc HB6.out.size (.cells #[.int .i64 kd, .string t, .int .i64 n, .slice none 0 0] 96)
              have HB9 := hide (hb9.grown hgrow (by simp; omega) (fun g hg => own_block_ge HO6.out g hg))
              have hs9 := HS6.out.alloc (.cells #[.int .i64 kd, .string t, .int .i64 n, .slice none 0 0] 96)
              have hs10 := hs9.grown hgrow (fun e => by have := HLT.out ks e.symm; omega)
              have HK9 := hide (HR6.out.below ItAt.stable (NB.alloc (Below.refl w6.heap.size w6) (.cells #[.int .i64 kd, .string t, .int .i64 n, .slice none 0 0] 96)))
              have HP := hide (show Below w.heap.size w w9 ∧ Blk w9 ks #[.int .i64 kd, .string t, .int .i64 n, .slice ak kids.length ck] 96 ∧ w9.ownsRow w.heap.size 96 4 v' X2.length (lfsC X2) from ⟨HB9.out, hs10, by rw [HSN.out.1, HSN.out.2]; exact hown'⟩)
              clear hown' hgrow hb9 hs9 hs10
              go_wp2_with fail
              go_meet
              exact HP
          case rest =>
            have HB7 := hide hcut.out.1
            have HS7 := hide hcut.out.2.1
            have HO7 := hide hcut.out.2.2
            clear hcut
            have s3 := HS7.out.cell 3
            have sl := HS7.out.lt
            have HC := hide (IH.out kids hsz HFX.out ak ck wc (HRW0.out.below ItAt.stable HB7.out))
            go_wp2_with fail
            refine HC.out.mono ?_
            rintro e w8 ⟨a7, c7, rfl, h7⟩
            have HB8 := hide (below_next HB7.out h7.out.2.2)
            have HO8 := hide (own_below HO7.out h7.out.2.2)
            have HK8 := hide h7.out.2.1
            have HSR := hide (own_srcs h7.out.1)
            have hl2 := HL2.out
            have hwb := HB8.out.size
            clear h7 s3 sl
            go_wp2_with (at_builtin; refine wpList_append_src rfl _ _ 51 rfl w.heap.size 96 i0 _ 4 56 Try.underlying51 hi hz0 hz1 hz2 rfl (by decide) _ X2.length (lfsC X2) rfl HO8.out a7 (lvIs kids).length c7 (lfsC (lvIs kids)) rfl HSR.out (lfsC_len _) (lfsC_one _) (by unfold maxLen; omega) (by omega) hwb ?_)
            intro v9 w9 hown' hgrow
            have HB9 := hide (HB8.out.grown hgrow HB8.out.size (fun g hg => own_block_ge HO8.out g hg))
            have HO9 := hide (show w9.ownsRow w.heap.size 96 4 v9 (lvIs (l.take (k + 1))).length (lfsC (lvIs (l.take (k + 1)))) by
              rw [HLV.out, List.length_append, show lfsC (X2 ++ lvIs kids) = lfsC X2 ++ lfsC (lvIs kids) by unfold lfsC; rw [List.flatMap_append]]
              exact hown')
            have HK9 := hide (show ∀ x ∈ lvIs (l.take (k + 1)), okLf x from fun x hx => by
              rw [HLV.out] at hx
              rcases List.mem_append.1 hx with h | h
              · exact HK2.out x h
              · exact HK8.out x h)
            clear hown' hgrow
            go_wp2_with fail
            go_roundg (l.length - (k + 1))
            case measure => rw [hu.out]; omega
            case rel => exact ⟨k + 1, hide rfl, by go_num, hide ⟨hlt, HB9.out, HO9.out, HK9.out⟩⟩
      · have hlti : ¬ (k : Int) < (l.length : Int) := by omega
        have hte : l.take k = l := List.take_of_length_le (by omega)
        have HP := hide (show Below w.heap.size w wr ∧ wr.ownsRow w.heap.size 96 4 _ (lvIs l).length (lfsC (lvIs l)) ∧ (∀ x ∈ lvIs l, okLf x) by rw [← hte]; exact hh.out.2)
        clear hh hte
        obtain ⟨a9, c9, ev, _⟩ := own_shape HP.out.2.1
        subst ev
        go_wp2_with fail
        go_ret
        exact ⟨a9, c9, rfl, hide ⟨HP.out.2.1, HP.out.2.2, HP.out.1⟩⟩
end Go.Proofs.Ytalicfpcmcbdbaa

set_option linter.unusedVariables false
set_option linter.unusedSimpArgs false
set_option linter.unnecessarySimpa false
set_option linter.deprecated false
namespace Go.Proofs.Ytalicfpcmcbdbaa
open Go.RowKit

def litB (kd : Int) (t : ByteArray) (n : Int) (s : Sy) : Bool := decide (kd = 1) && decide (t = s.text) && decide (n = 0)
def holB (kd : Int) (t : ByteArray) (n m : Int) : Bool := decide (kd = 2) && emp t && decide (n = m + 1)
/-- The leaves against the symbols, one behind the other. -/
def stepL : List It → List Sy → Int → Option (List Sy × Int)
  | [], r, m => some (r, m)
  | _ :: _, [], _ => none
  | y :: ys, s :: r', m => if s.kind = 1 then (if litB y.kind y.text y.num s = true then stepL ys r' m else none) else (if holB y.kind y.text y.num m = true then stepL ys r' (m + 1) else none)
theorem stepL_mk (kd : Int) (t : ByteArray) (n : Int) (k ys : List It) (s : Sy) (r' : List Sy) (m : Int) : stepL (.mk kd t n k :: ys) (s :: r') m = if s.kind = 1 then (if litB kd t n s = true then stepL ys r' m else none) else (if holB kd t n m = true then stepL ys r' (m + 1) else none) := by rw [stepL]; rfl
theorem stepL_nil (y : It) (ys : List It) (m : Int) : stepL (y :: ys) [] m = none := by rw [stepL]
theorem stepL_app : ∀ (l1 l2 : List It) (r : List Sy) (m : Int), stepL (l1 ++ l2) r m = (stepL l1 r m).bind (fun p => stepL l2 p.1 p.2)
  | [], l2, r, m => by rw [List.nil_append, stepL]; rfl
  | y :: ys, l2, [], m => by rw [List.cons_append, stepL, stepL]; rfl
  | y :: ys, l2, s :: r', m => by
    rw [List.cons_append, stepL, stepL]
    by_cases h1 : s.kind = 1
    · rw [if_pos h1, if_pos h1]
      by_cases h2 : litB y.kind y.text y.num s = true
      · rw [if_pos h2, if_pos h2, stepL_app ys l2 r' m]
      · rw [if_neg h2, if_neg h2]; rfl
    · rw [if_neg h1, if_neg h1]
      by_cases h2 : holB y.kind y.text y.num m = true
      · rw [if_pos h2, if_pos h2, stepL_app ys l2 r' (m + 1)]
      · rw [if_neg h2, if_neg h2]; rfl
theorem stepL_len : ∀ (l : List It) (r : List Sy) (m : Int) (p : List Sy × Int), stepL l r m = some p → p.1.length + l.length = r.length
  | [], r, m, p, h => by rw [stepL] at h; injection h with h; subst h; simp
  | y :: ys, [], m, p, h => by rw [stepL_nil] at h; cases h
  | y :: ys, s :: r', m, p, h => by
    rw [stepL] at h
    split at h
    · split at h
      · have := stepL_len ys r' m p h; simp only [List.length_cons]; omega
      · cases h
    · split at h
      · have := stepL_len ys r' (m + 1) p h; simp only [List.length_cons]; omega
      · cases h
theorem okIt_out {kd : Int} {t : ByteArray} {n : Int} {kids : List It} (h : okIt kd t n kids = true) : (1 ≤ kd ∧ kd ≤ 6) ∧ (kd ≠ 1 → emp t = true) ∧ (kd ≠ 2 → kd ≠ 5 → n = 0) ∧ (kd < 5 → kids = []) := by
  unfold okIt at h
  by_cases h1 : kd = 1
  · rw [if_pos h1] at h
    simp only [Bool.and_eq_true, decide_eq_true_eq] at h
    exact ⟨by omega, fun h2 => absurd h1 h2, fun _ _ => h.1.2, fun _ => List.eq_nil_of_length_eq_zero h.2⟩
  rw [if_neg h1] at h
  by_cases h2 : kd = 2
  · rw [if_pos h2] at h
    simp only [Bool.and_eq_true, decide_eq_true_eq] at h
    exact ⟨by omega, fun _ => h.1.1, fun h3 => absurd h2 h3, fun _ => List.eq_nil_of_length_eq_zero h.2⟩
  rw [if_neg h2] at h
  by_cases h3 : kd = 3 ∨ kd = 4
  · rw [if_pos h3] at h
    simp only [Bool.and_eq_true, decide_eq_true_eq] at h
    exact ⟨by omega, fun _ => h.1.1, fun _ _ => h.1.2, fun _ => List.eq_nil_of_length_eq_zero h.2⟩
  rw [if_neg h3] at h
  by_cases h5 : kd = 5
  · rw [if_pos h5] at h
    simp only [Bool.and_eq_true] at h
    exact ⟨by omega, fun _ => h.1, fun _ h6 => absurd h5 h6, fun h6 => by omega⟩
  rw [if_neg h5] at h
  by_cases h6 : kd = 6
  · rw [if_pos h6] at h
    simp only [Bool.and_eq_true, decide_eq_true_eq] at h
    exact ⟨by omega, fun _ => h.1, fun _ _ => h.2, fun h7 => by omega⟩
  · rw [if_neg h6] at h; cases h
mutual
theorem fI_step : ∀ (x : It) (m0 k0 : Int), rI x m0 = some k0 → ∀ (r : List Sy) (m : Int), fI x r m = stepL (lvI x) r m
  | .mk kd t n l, m0, k0, h, r, m => by
    rw [rI] at h
    split at h
    case isFalse => cases h
    rename_i hok
    have ho := okIt_out hok.1
    rw [fI, lvI]
    by_cases h5 : kd = 5 ∨ kd = 6
    · rw [if_pos h5]
      by_cases h4 : 40 < n
      · rw [if_pos h4]
        have hk5 : kd = 5 := by
          rcases h5 with h | h
          · exact h
          · have := ho.2.2.1 (by omega) (by omega); omega
        have hlf : leafB kd n = true := by unfold leafB; rw [decide_eq_true hk5, decide_eq_true h4]; simp
        rw [if_pos hlf, List.singleton_append]
        cases r with
        | nil => rw [stepL]
        | cons s r' =>
          rw [stepL_mk]
          by_cases h1 : s.kind = 1
          · rw [if_pos h1, show litB kd t n s = false by unfold litB; rw [decide_eq_false (show ¬ kd = 1 by omega)]; rfl]; rfl
          · rw [if_neg h1, show holB kd t n m = false by unfold holB; rw [decide_eq_false (show ¬ kd = 2 by omega)]; rfl]; rfl
      · rw [if_neg h4]
        have hlf : ¬ leafB kd n = true := by unfold leafB; rw [decide_eq_false (show ¬ kd = 1 by omega), decide_eq_false (show ¬ kd = 2 by omega), decide_eq_false h4]; simp
        rw [if_neg hlf, List.nil_append]
        exact fIs_step l (m0 - 1) k0 h r m
    · rw [if_neg h5]
      have hl : l = [] := ho.2.2.2 (by have := ho.1; omega)
      subst hl
      rw [lvIs, List.append_nil]
      by_cases h1 : kd = 1 ∨ kd = 2
      · rw [if_pos h1]
        have hlf : leafB kd n = true := by
          unfold leafB
          rcases h1 with h1 | h1
          · rw [decide_eq_true h1]; rfl
          · rw [decide_eq_true h1]; simp
        rw [if_pos hlf]
        unfold fOne
        cases r with
        | nil => rw [stepL]
        | cons s r' =>
          rw [stepL_mk, stepL, stepL]
          simp only
          rcases h1 with h1 | h1
          · have hn := ho.2.2.1 (by omega) (by omega)
            rw [if_pos h1]
            by_cases hs : s.kind = 1
            · rw [if_pos hs]
              by_cases ht : s.text = t
              · rw [if_pos ⟨hs, ht⟩, show litB kd t n s = true by unfold litB; rw [decide_eq_true h1, decide_eq_true ht.symm, decide_eq_true hn]; rfl]; rfl
              · rw [if_neg (fun h => ht h.2), show litB kd t n s = false by unfold litB; rw [decide_eq_false (fun h : t = s.text => ht h.symm)]; simp]; rfl
            · rw [if_neg hs, if_neg (fun h => hs h.1), show holB kd t n m = false by unfold holB; rw [decide_eq_false (show ¬ kd = 2 by omega)]; rfl]; rfl
          · have ht := ho.2.1 (by omega)
            rw [if_neg (show ¬ kd = 1 by omega)]
            by_cases hs : s.kind = 1
            · rw [if_pos hs, if_pos (Or.inl hs), show litB kd t n s = false by unfold litB; rw [decide_eq_false (show ¬ kd = 1 by omega)]; rfl]; rfl
            · rw [if_neg hs]
              by_cases hn : n = m + 1
              · rw [if_neg (by rintro (h | h); exact hs h; exact h hn), show holB kd t n m = true by unfold holB; rw [decide_eq_true h1, ht, decide_eq_true hn]; rfl]; rfl
              · rw [if_pos (Or.inr hn), show holB kd t n m = false by unfold holB; rw [decide_eq_false hn]; simp]; rfl
      · rw [if_neg h1]
        have hlf : ¬ leafB kd n = true := by unfold leafB; rw [decide_eq_false (show ¬ kd = 1 by omega), decide_eq_false (show ¬ kd = 2 by omega), decide_eq_false (show ¬ kd = 5 by omega)]; simp
        rw [if_neg hlf]
        rfl
theorem fIs_step : ∀ (l : List It) (m0 k0 : Int), rIs l m0 = some k0 → ∀ (r : List Sy) (m : Int), fIs l r m = stepL (lvIs l) r m
  | [], m0, k0, _, r, m => by rw [fIs, lvIs, stepL]
  | x :: xs, m0, k0, h, r, m => by
    rw [rIs] at h
    split at h
    · cases h
    rename_i j hj
    rw [fIs, lvIs, stepL_app, fI_step x m0 j hj r m]
    cases stepL (lvI x) r m with
    | none => rfl
    | some p => exact fIs_step xs j k0 h p.1 p.2
end
theorem fitOk_step (p : Pd) (l : List It) (h : (rIs l 64).isSome = true) : fitOk p l = okR (stepL (lvIs l) p.syms 0) := by
  obtain ⟨k, hk⟩ := Option.isSome_iff_exists.1 h
  unfold fitOk
  rw [fIs_step l 64 k hk]
theorem fit_no_len (p : Pd) (l : List It) (h : (rIs l 64).isSome = true) (hn : (lvIs l).length ≠ p.syms.length) : fitOk p l = false := by
  rw [fitOk_step p l h]
  cases hs : stepL (lvIs l) p.syms 0 with
  | none => rfl
  | some q =>
    have := stepL_len _ _ _ _ hs
    obtain ⟨r, m⟩ := q
    cases r with
    | nil => simp at this; omega
    | cons s r => rfl
end Go.Proofs.Ytalicfpcmcbdbaa
