/- What is under way in Copy. -/
import Derived.Test.YtalicfpcmcbdbaaZCpE
import Derived.Test.YtalicfpcmcbdbaaZTuS
import Derived.Test.YtalicfpcmcbdbaaZOkD
set_option linter.unusedVariables false
set_option linter.unusedSimpArgs false
set_option linter.unnecessarySimpa false
set_option linter.deprecated false
namespace Go.Proofs.Ytalicfpcmcbdbaa
open Go.RowKit

theorem info66 : (Try.prog.info? 66).map (fun i => (i.zero, i.size, i.bytes)) = some (some (.slice none 0 0), 1, 24) := by kernel_rfl
theorem info68 : (Try.prog.info? 68).map (fun i => (i.zero, i.size, i.bytes)) = some (some (.agg #[.int .i64 0, .slice none 0 0]), 2, 32) := by kernel_rfl
theorem step_append_src {P : Program} {ops : Array Oper} {o : Oper} {a : Act} {w : World} {K : Act → World → Prop} {Q : Exit → Act → World → Prop} {E : Prop}
    (hg : o.guard = none) (s x : Operand) (t : TypeId) (hop : o.op = Op.call { callee := Callee.builtin Builtin.append, args := #[s, x], argTypes := #[t, t] })
    (base : Nat) (e : TypeId) (i : TypeInfo) (z : Value) (size bytes : Nat) (ht : P.underlying t = some (.slice e)) (hi : P.info? e = some i) (hz : i.zero = some z)
    (hsize : i.size = size) (hby : i.bytes = bytes) (hzs : z.cells.size = size) (hsz : 0 < size)
    (v : Value) (n : Nat) (xs : List Value) (hs : a.eval s = v) (hown : w.ownsRow base e size v n xs)
    (ax : Option Addr) (m cx : Nat) (news : List Value) (hx : a.eval x = .slice ax m cx) (hsrc : Srcs ax m news w) (hl : news.length = m * size) (h1 : ∀ u ∈ news, u.oneCell' = true)
    (h63 : n + m ≤ maxLen) (hbytes : (n + m) * bytes ≤ 140737488355328) (hbase : base ≤ w.heap.size)
    (h : ∀ v' w', w'.ownsRow base e size v' (n + m) (xs ++ news) → w.grownBy w' v.ownBlock → K (a.put o.dst v') w') :
    if Region.wanted o (yielded ops a.tmps) = true then Oper.wp P o a w K Q else E := by
  rcases hsrc with ⟨rfl, rfl, rfl⟩ | ⟨ad, rfl, hc⟩
  · have hw : Region.wanted o (yielded ops a.tmps) = true := by simp [Region.wanted, hg]
    rw [if_pos hw]
    have hrun := run_append_noneC (P := P) (w := w) base t o.type e i size cx ht hi v n xs hown
    unfold Oper.wp execOp
    simp only [hop, resolve, invoke, builtin, Sem.run_bind, Sem.run_pure, Result.andThen_ok, List.map_toArray, List.map_cons, List.map_nil, hs, hx, hrun]
    refine h v w ?_ (World.grownBy.refl _ _)
    rw [List.append_nil, Nat.add_zero]; exact hown
  · exact step_append_own hg s x t hop base e i z size bytes ht hi hz hsize hby hzs hsz v n xs hs hown ad m cx news hx hl hc h1 h63 hbytes hbase (fun v' w' a1 a2 _ _ => h v' w' a1 a2)
/-- A production whose symbols are one's own. -/
def EP (p : Pd) (cs : List Value) (W : World) : Prop := ∃ vs, cs = [.bool p.lex, .string p.sort, .string p.cons, .bool p.bracket, vs] ∧ p.ok ∧ (∀ s ∈ p.syms, s.ok) ∧ W.ownsRow 0 61 8 vs p.syms.length (symsC p.syms)
def EG (g : Gp) (cs : List Value) (W : World) : Prop := ∃ vs, cs = [.int .i64 g.assoc, vs] ∧ i64 g.assoc ∧ OwnS 0 vs g.cons W
def EC (ch : List Gp) (cs : List Value) (W : World) : Prop := ∃ v css, cs = [v] ∧ OwnE EG 0 68 2 ch v css W
def EF (f : Fl) (cs : List Value) (_ : World) : Prop := cs = flC f ∧ f.ok
def ER (r : Rj) (cs : List Value) (_ : World) : Prop := cs = [.string r.sort, .string r.by_] ∧ r.ok
def EB (x : Bx) (cs : List Value) (W : World) : Prop := ∃ v css, cs = [.string x.cons, v] ∧ short x.cons ∧ OwnE (EIt (fun _ => True)) 0 96 4 x.items v css W
theorem EP.st {t : TypeId} (h : 61 ≠ t) : StT EP t := fun x cs W W' ht ⟨vs, h1, h2, h3, h4⟩ => ⟨vs, h1, h2, h3, ht.own h4 h⟩
theorem EG.st {t : TypeId} (h : 9 ≠ t) : StT EG t := fun x cs W W' ht ⟨vs, h1, h2, h3⟩ => ⟨vs, h1, h2, ht.own h3.1 h, h3.2⟩
theorem EC.st {t : TypeId} (h : 9 ≠ t) (h2 : 68 ≠ t) : StT EC t := fun x cs W W' ht ⟨v, css, h1, h3⟩ => ⟨v, css, h1, h3.touch ht h2 (EG.st h)⟩
theorem EF.st {t : TypeId} : StT EF t := fun x cs W W' ht h => h
theorem ER.st {t : TypeId} : StT ER t := fun x cs W W' ht h => h
theorem EIt.st {t : TypeId} (h : 96 ≠ t) : StT (EIt (fun _ => True)) t := fun x cs W W' ht he => EIt.keep x cs W W' (fun g c _ hb => ht.blk hb h) (fun _ _ h => h) he
theorem EB.st {t : TypeId} (h : 96 ≠ t) : StT EB t := fun x cs W W' ht ⟨v, css, h1, h2, h3⟩ => ⟨v, css, h1, h2, h3.touch ht h (EIt.st h)⟩
theorem EP.at {p : Pd} {cs : List Value} {W : World} {b o : Nat} (h : EP p cs W) (hc : CellsAt cs b o W) (hl : p.syms.length ≤ 140737488351232) : PdAt p b o W := by
  obtain ⟨vs, rfl, h2, h3, h4⟩ := h
  have ho : OwnE (fun (s : Sy) cs (_ : World) => cs = syC s ∧ s.ok) 0 61 8 p.syms vs (p.syms.map syC) W := by
    refine ⟨?_, by simp, fun cs hcs => ?_, fun i h1 h5 => ⟨by simp, h3 _ (List.getElem_mem h5)⟩⟩
    · have e : (p.syms.map syC).flatten = symsC p.syms := by unfold symsC; rw [List.flatMap_def]
      rw [e, List.length_map]; exact h4
    · obtain ⟨s, _, rfl⟩ := List.mem_map.1 hcs; rfl
  obtain ⟨a, c, rfl, hr, hcap⟩ := ho.row (At := SyAt) (fun s _ cs b o he hc => ⟨he.2, by rw [← he.1]; exact hc⟩) hl
  exact ⟨h2, a, c, hc, hr, hcap⟩
theorem EG.at {g : Gp} {cs : List Value} {W : World} {b o : Nat} (h : EG g cs W) (hc : CellsAt cs b o W) (hl : g.cons.length ≤ 140737488351232) : GpAt g b o W := by
  obtain ⟨vs, rfl, h2, h3⟩ := h
  obtain ⟨a, c, rfl, hr⟩ := h3.row hl
  exact ⟨h2, a, c, hc, hr⟩
theorem EC.at {ch : List Gp} {cs : List Value} {W : World} {b o : Nat} (h : EC ch cs W) (hc : CellsAt cs b o W) (hl : ch.length ≤ 140737488351232) (hg : ∀ g ∈ ch, g.cons.length ≤ 140737488351232) : ChAt ch b o W := by
  obtain ⟨v, css, rfl, h2⟩ := h
  obtain ⟨a, c, rfl, hr, _⟩ := h2.row (At := GpAt) (fun g hgm cs b o he hc => he.at hc (hg g hgm)) hl
  exact ⟨a, c, hc 0 _ rfl, hr⟩
theorem EB.at {x : Bx} {cs : List Value} {W : World} {b o : Nat} (h : EB x cs W) (hc : CellsAt cs b o W) (hf : FitIs x.items) : BxAt x b o W := by
  obtain ⟨v, css, rfl, h2, h3⟩ := h
  obtain ⟨a, c, rfl, hr, _⟩ := items_row h3 hf
  exact ⟨h2, a, c, hc, hr⟩
/-- A definition that can be copied. -/
structure FitD (d : Df) : Prop where
  s : Small d
  cl : d.chains.length ≤ 100000
  gl : ∀ ch ∈ d.chains, ch.length ≤ 100000
  nl : ∀ ch ∈ d.chains, ∀ g ∈ ch, g.cons.length ≤ 100000
  bx : ∀ x ∈ d.boxes, FitIs x.items
/-- What is under way in Copy. -/
structure CpS (d : Df) (w1 : World) (kz kP kC kF kR kB : Nat) (vP vC vF vR vB : Value) (cP cC cF cR cB : List (List Value)) (W : World) : Prop where
  g : Below w1.heap.size w1 W
  z : w1.heap.size ≤ kz
  y : Blk W kz #[.string d.start, .string d.layout, vP, vC, vF, vR, vB] 28
  p : OwnE EP w1.heap.size 38 5 (d.prods.take kP) vP cP W
  c : OwnE EC w1.heap.size 66 1 (d.chains.take kC) vC cC W
  f : OwnE EF w1.heap.size 48 5 (d.follows.take kF) vF cF W
  r : OwnE ER w1.heap.size 50 2 (d.rejects.take kR) vR cR W
  b : OwnE EB w1.heap.size 53 2 (d.boxes.take kB) vB cB W
theorem CpS.below {d : Df} {w1 : World} {kz kP kC kF kR kB : Nat} {vP vC vF vR vB : Value} {cP cC cF cR cB : List (List Value)} {W : World} {W' : World} (h : CpS d w1 kz kP kC kF kR kB vP vC vF vR vB cP cC cF cR cB W) (hb : Below W.heap.size W W') : CpS d w1 kz kP kC kF kR kB vP vC vF vR vB cP cC cF cR cB W' := by
  have ht : Touch W W' 28 := Touch.of_below hb
  exact ⟨below_next h.g hb, h.z, h.y.below hb, h.p.touch ht (by decide) (EP.st (by decide)), h.c.touch ht (by decide) (EC.st (by decide) (by decide)), h.f.touch ht (by decide) (EF.st), h.r.touch ht (by decide) (ER.st), h.b.touch ht (by decide) (EB.st (by decide))⟩
theorem CpS.pushP {d : Df} {w1 : World} {kz kP kC kF kR kB : Nat} {vP vC vF vR vB : Value} {cP cC cF cR cB : List (List Value)} {W : World} {W2 wz : World} {v' : Value} {cs : List Value} {x : Pd} (h : CpS d w1 kz kP kC kF kR kB vP vC vF vR vB cP cC cF cR cB W) (ho : wz.ownsRow w1.heap.size 38 5 v' (cP.length + 1) (cP.flatten ++ cs)) (hb : Below W.heap.size W W2) (hg : W2.grownBy wz vP.ownBlock) (hc : cs.length = 5)
    (hx : EP x cs W2) (hr : d.prods.take (kP + 1) = d.prods.take kP ++ [x]) : Blk wz kz #[.string d.start, .string d.layout, vP, vC, vF, vR, vB] 28 ∧ CpS d w1 kz (kP + 1) kC kF kR kB v' vC vF vR vB (cP ++ [cs]) cC cF cR cB (wz.setCell ⟨kz, 2, none⟩ v') := by
  have h2 := h.below hb
  have hgw := hg
  have hne : some kz ≠ vP.ownBlock := h2.y.own_ne h2.p.own (by decide)
  have hy := h2.y.grown hgw hne
  have ht : Touch W2 wz 38 := Touch.of_own h2.p.own hgw
  have ht2 : Touch wz (wz.setCell ⟨kz, 2, none⟩ v') 28 := Touch.set hy v'
  have hp := h2.p.push ho rfl hc ht (EP.st (by decide)) hx
  refine ⟨hy, ⟨(h2.g.grown hgw h2.g.size (fun g hg => own_block_ge h2.p.own g hg)).setCell (by have := h.z; simp only; omega) _, h.z, hy.set 2 v', ?_, ?_, ?_, ?_, ?_⟩⟩
  · rw [hr]; exact hp.touch ht2 (by decide) (EP.st (by decide))
  · exact (h2.c.touch ht (by decide) (EC.st (by decide) (by decide))).touch ht2 (by decide) (EC.st (by decide) (by decide))
  · exact (h2.f.touch ht (by decide) (EF.st)).touch ht2 (by decide) (EF.st)
  · exact (h2.r.touch ht (by decide) (ER.st)).touch ht2 (by decide) (ER.st)
  · exact (h2.b.touch ht (by decide) (EB.st (by decide))).touch ht2 (by decide) (EB.st (by decide))
theorem CpS.pushC {d : Df} {w1 : World} {kz kP kC kF kR kB : Nat} {vP vC vF vR vB : Value} {cP cC cF cR cB : List (List Value)} {W : World} {W2 wz : World} {v' : Value} {cs : List Value} {x : List Gp} (h : CpS d w1 kz kP kC kF kR kB vP vC vF vR vB cP cC cF cR cB W) (ho : wz.ownsRow w1.heap.size 66 1 v' (cC.length + 1) (cC.flatten ++ cs)) (hb : Below W.heap.size W W2) (hg : W2.grownBy wz vC.ownBlock) (hc : cs.length = 1)
    (hx : EC x cs W2) (hr : d.chains.take (kC + 1) = d.chains.take kC ++ [x]) : Blk wz kz #[.string d.start, .string d.layout, vP, vC, vF, vR, vB] 28 ∧ CpS d w1 kz kP (kC + 1) kF kR kB vP v' vF vR vB cP (cC ++ [cs]) cF cR cB (wz.setCell ⟨kz, 3, none⟩ v') := by
  have h2 := h.below hb
  have hgw := hg
  have hne : some kz ≠ vC.ownBlock := h2.y.own_ne h2.c.own (by decide)
  have hy := h2.y.grown hgw hne
  have ht : Touch W2 wz 66 := Touch.of_own h2.c.own hgw
  have ht2 : Touch wz (wz.setCell ⟨kz, 3, none⟩ v') 28 := Touch.set hy v'
  have hp := h2.c.push ho rfl hc ht (EC.st (by decide) (by decide)) hx
  refine ⟨hy, ⟨(h2.g.grown hgw h2.g.size (fun g hg => own_block_ge h2.c.own g hg)).setCell (by have := h.z; simp only; omega) _, h.z, hy.set 3 v', ?_, ?_, ?_, ?_, ?_⟩⟩
  · exact (h2.p.touch ht (by decide) (EP.st (by decide))).touch ht2 (by decide) (EP.st (by decide))
  · rw [hr]; exact hp.touch ht2 (by decide) (EC.st (by decide) (by decide))
  · exact (h2.f.touch ht (by decide) (EF.st)).touch ht2 (by decide) (EF.st)
  · exact (h2.r.touch ht (by decide) (ER.st)).touch ht2 (by decide) (ER.st)
  · exact (h2.b.touch ht (by decide) (EB.st (by decide))).touch ht2 (by decide) (EB.st (by decide))
theorem CpS.pushF {d : Df} {w1 : World} {kz kP kC kF kR kB : Nat} {vP vC vF vR vB : Value} {cP cC cF cR cB : List (List Value)} {W : World} {W2 wz : World} {v' : Value} {cs : List Value} {x : Fl} (h : CpS d w1 kz kP kC kF kR kB vP vC vF vR vB cP cC cF cR cB W) (ho : wz.ownsRow w1.heap.size 48 5 v' (cF.length + 1) (cF.flatten ++ cs)) (hb : Below W.heap.size W W2) (hg : W2.grownBy wz vF.ownBlock) (hc : cs.length = 5)
    (hx : EF x cs W2) (hr : d.follows.take (kF + 1) = d.follows.take kF ++ [x]) : Blk wz kz #[.string d.start, .string d.layout, vP, vC, vF, vR, vB] 28 ∧ CpS d w1 kz kP kC (kF + 1) kR kB vP vC v' vR vB cP cC (cF ++ [cs]) cR cB (wz.setCell ⟨kz, 4, none⟩ v') := by
  have h2 := h.below hb
  have hgw := hg
  have hne : some kz ≠ vF.ownBlock := h2.y.own_ne h2.f.own (by decide)
  have hy := h2.y.grown hgw hne
  have ht : Touch W2 wz 48 := Touch.of_own h2.f.own hgw
  have ht2 : Touch wz (wz.setCell ⟨kz, 4, none⟩ v') 28 := Touch.set hy v'
  have hp := h2.f.push ho rfl hc ht (EF.st) hx
  refine ⟨hy, ⟨(h2.g.grown hgw h2.g.size (fun g hg => own_block_ge h2.f.own g hg)).setCell (by have := h.z; simp only; omega) _, h.z, hy.set 4 v', ?_, ?_, ?_, ?_, ?_⟩⟩
  · exact (h2.p.touch ht (by decide) (EP.st (by decide))).touch ht2 (by decide) (EP.st (by decide))
  · exact (h2.c.touch ht (by decide) (EC.st (by decide) (by decide))).touch ht2 (by decide) (EC.st (by decide) (by decide))
  · rw [hr]; exact hp.touch ht2 (by decide) (EF.st)
  · exact (h2.r.touch ht (by decide) (ER.st)).touch ht2 (by decide) (ER.st)
  · exact (h2.b.touch ht (by decide) (EB.st (by decide))).touch ht2 (by decide) (EB.st (by decide))
theorem CpS.pushR {d : Df} {w1 : World} {kz kP kC kF kR kB : Nat} {vP vC vF vR vB : Value} {cP cC cF cR cB : List (List Value)} {W : World} {W2 wz : World} {v' : Value} {cs : List Value} {x : Rj} (h : CpS d w1 kz kP kC kF kR kB vP vC vF vR vB cP cC cF cR cB W) (ho : wz.ownsRow w1.heap.size 50 2 v' (cR.length + 1) (cR.flatten ++ cs)) (hb : Below W.heap.size W W2) (hg : W2.grownBy wz vR.ownBlock) (hc : cs.length = 2)
    (hx : ER x cs W2) (hr : d.rejects.take (kR + 1) = d.rejects.take kR ++ [x]) : Blk wz kz #[.string d.start, .string d.layout, vP, vC, vF, vR, vB] 28 ∧ CpS d w1 kz kP kC kF (kR + 1) kB vP vC vF v' vB cP cC cF (cR ++ [cs]) cB (wz.setCell ⟨kz, 5, none⟩ v') := by
  have h2 := h.below hb
  have hgw := hg
  have hne : some kz ≠ vR.ownBlock := h2.y.own_ne h2.r.own (by decide)
  have hy := h2.y.grown hgw hne
  have ht : Touch W2 wz 50 := Touch.of_own h2.r.own hgw
  have ht2 : Touch wz (wz.setCell ⟨kz, 5, none⟩ v') 28 := Touch.set hy v'
  have hp := h2.r.push ho rfl hc ht (ER.st) hx
  refine ⟨hy, ⟨(h2.g.grown hgw h2.g.size (fun g hg => own_block_ge h2.r.own g hg)).setCell (by have := h.z; simp only; omega) _, h.z, hy.set 5 v', ?_, ?_, ?_, ?_, ?_⟩⟩
  · exact (h2.p.touch ht (by decide) (EP.st (by decide))).touch ht2 (by decide) (EP.st (by decide))
  · exact (h2.c.touch ht (by decide) (EC.st (by decide) (by decide))).touch ht2 (by decide) (EC.st (by decide) (by decide))
  · exact (h2.f.touch ht (by decide) (EF.st)).touch ht2 (by decide) (EF.st)
  · rw [hr]; exact hp.touch ht2 (by decide) (ER.st)
  · exact (h2.b.touch ht (by decide) (EB.st (by decide))).touch ht2 (by decide) (EB.st (by decide))
theorem CpS.pushB {d : Df} {w1 : World} {kz kP kC kF kR kB : Nat} {vP vC vF vR vB : Value} {cP cC cF cR cB : List (List Value)} {W : World} {W2 wz : World} {v' : Value} {cs : List Value} {x : Bx} (h : CpS d w1 kz kP kC kF kR kB vP vC vF vR vB cP cC cF cR cB W) (ho : wz.ownsRow w1.heap.size 53 2 v' (cB.length + 1) (cB.flatten ++ cs)) (hb : Below W.heap.size W W2) (hg : W2.grownBy wz vB.ownBlock) (hc : cs.length = 2)
    (hx : EB x cs W2) (hr : d.boxes.take (kB + 1) = d.boxes.take kB ++ [x]) : Blk wz kz #[.string d.start, .string d.layout, vP, vC, vF, vR, vB] 28 ∧ CpS d w1 kz kP kC kF kR (kB + 1) vP vC vF vR v' cP cC cF cR (cB ++ [cs]) (wz.setCell ⟨kz, 6, none⟩ v') := by
  have h2 := h.below hb
  have hgw := hg
  have hne : some kz ≠ vB.ownBlock := h2.y.own_ne h2.b.own (by decide)
  have hy := h2.y.grown hgw hne
  have ht : Touch W2 wz 53 := Touch.of_own h2.b.own hgw
  have ht2 : Touch wz (wz.setCell ⟨kz, 6, none⟩ v') 28 := Touch.set hy v'
  have hp := h2.b.push ho rfl hc ht (EB.st (by decide)) hx
  refine ⟨hy, ⟨(h2.g.grown hgw h2.g.size (fun g hg => own_block_ge h2.b.own g hg)).setCell (by have := h.z; simp only; omega) _, h.z, hy.set 6 v', ?_, ?_, ?_, ?_, ?_⟩⟩
  · exact (h2.p.touch ht (by decide) (EP.st (by decide))).touch ht2 (by decide) (EP.st (by decide))
  · exact (h2.c.touch ht (by decide) (EC.st (by decide) (by decide))).touch ht2 (by decide) (EC.st (by decide) (by decide))
  · exact (h2.f.touch ht (by decide) (EF.st)).touch ht2 (by decide) (EF.st)
  · exact (h2.r.touch ht (by decide) (ER.st)).touch ht2 (by decide) (ER.st)
  · rw [hr]; exact hp.touch ht2 (by decide) (EB.st (by decide))
def rjC (r : Rj) : List Value := [.string r.sort, .string r.by_]
theorem CpS.allF {d : Df} {w1 : World} {kz kP kC kF kR kB : Nat} {vP vC vF vR vB : Value} {cP cC cF cR cB : List (List Value)} {W : World} {wz : World} {v' : Value} (h : CpS d w1 kz kP kC 0 kR kB vP vC (.slice none 0 0) vR vB cP cC [] cR cB W) (ho : wz.ownsRow w1.heap.size 48 5 v' d.follows.length (d.follows.flatMap flC)) (hg : W.grownBy wz none) (hok : ∀ x ∈ d.follows, x.ok) : Blk wz kz #[.string d.start, .string d.layout, vP, vC, .slice none 0 0, vR, vB] 28 ∧ CpS d w1 kz kP kC d.follows.length kR kB vP vC v' vR vB cP cC (d.follows.map flC) cR cB (wz.setCell ⟨kz, 4, none⟩ v') := by
  have hb : Below W.heap.size W wz := ⟨hg.os, hg.tape, hg.output, hg.size, fun k hk => hg.block k hk (by simp)⟩
  have h2 := h.below hb
  have hy := h2.y
  have ht2 : Touch wz (wz.setCell ⟨kz, 4, none⟩ v') 28 := Touch.set hy v'
  have ho2 := ht2.own ho (by decide)
  refine ⟨hy, ⟨h2.g.setCell (by have := h.z; simp only; omega) _, h.z, hy.set 4 v', ?_, ?_, ?_, ?_, ?_⟩⟩
  · exact h2.p.touch ht2 (by decide) (EP.st (by decide))
  · exact h2.c.touch ht2 (by decide) (EC.st (by decide) (by decide))
  · rw [List.take_length]
    refine ⟨by rw [List.length_map, ← List.flatMap_def]; exact ho2, by simp, fun cs hcs => ?_, fun i h1 h3 => ⟨by rw [List.getElem_map], hok _ (List.getElem_mem h3)⟩⟩
    obtain ⟨s, _, rfl⟩ := List.mem_map.1 hcs; rfl
  · exact h2.r.touch ht2 (by decide) (ER.st)
  · exact h2.b.touch ht2 (by decide) (EB.st (by decide))
theorem CpS.allR {d : Df} {w1 : World} {kz kP kC kF kR kB : Nat} {vP vC vF vR vB : Value} {cP cC cF cR cB : List (List Value)} {W : World} {wz : World} {v' : Value} (h : CpS d w1 kz kP kC kF 0 kB vP vC vF (.slice none 0 0) vB cP cC cF [] cB W) (ho : wz.ownsRow w1.heap.size 50 2 v' d.rejects.length (d.rejects.flatMap rjC)) (hg : W.grownBy wz none) (hok : ∀ x ∈ d.rejects, x.ok) : Blk wz kz #[.string d.start, .string d.layout, vP, vC, vF, .slice none 0 0, vB] 28 ∧ CpS d w1 kz kP kC kF d.rejects.length kB vP vC vF v' vB cP cC cF (d.rejects.map rjC) cB (wz.setCell ⟨kz, 5, none⟩ v') := by
  have hb : Below W.heap.size W wz := ⟨hg.os, hg.tape, hg.output, hg.size, fun k hk => hg.block k hk (by simp)⟩
  have h2 := h.below hb
  have hy := h2.y
  have ht2 : Touch wz (wz.setCell ⟨kz, 5, none⟩ v') 28 := Touch.set hy v'
  have ho2 := ht2.own ho (by decide)
  refine ⟨hy, ⟨h2.g.setCell (by have := h.z; simp only; omega) _, h.z, hy.set 5 v', ?_, ?_, ?_, ?_, ?_⟩⟩
  · exact h2.p.touch ht2 (by decide) (EP.st (by decide))
  · exact h2.c.touch ht2 (by decide) (EC.st (by decide) (by decide))
  · exact h2.f.touch ht2 (by decide) (EF.st)
  · rw [List.take_length]
    refine ⟨by rw [List.length_map, ← List.flatMap_def]; exact ho2, by simp, fun cs hcs => ?_, fun i h1 h3 => ⟨by rw [List.getElem_map]; rfl, hok _ (List.getElem_mem h3)⟩⟩
    obtain ⟨s, _, rfl⟩ := List.mem_map.1 hcs; rfl
  · exact h2.b.touch ht2 (by decide) (EB.st (by decide))
theorem CpS.drew {d : Df} {w1 : World} {kz kP kC kF kR kB : Nat} {vP vC vF vR vB : Value} {cP cC cF cR cB : List (List Value)} {W : World} (h : CpS d w1 kz kP kC kF kR kB vP vC vF vR vB cP cC cF cR cB W) : CpS d w1 kz kP kC kF kR kB vP vC vF vR vB cP cC cF cR cB W.drew := h.below (Below.refl W.heap.size W).drew
end Go.Proofs.Ytalicfpcmcbdbaa
