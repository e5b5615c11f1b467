/- A copy to which one more is appended. -/
import Derived.Test.YtalicfpcmcbdbaaZFit
import Derived.Test.YtalicfpcmcbdbaaZTw
set_option linter.unusedVariables false
set_option linter.unusedSimpArgs false
set_option linter.unnecessarySimpa false
set_option linter.deprecated false
namespace Go.Proofs.Ytalicfpcmcbdbaa
open Go.RowKit

/-- One of these things: where it stands. -/
theorem OwnE.at {α : Type} {E : α → List Value → World → Prop} {B : Nat} {e : TypeId} {sz : Nat} {l : List α} {v : Value} {css : List (List Value)} {W : World} (h : OwnE E B e sz l v css W) {i : Nat} (hi : i < l.length) : ∃ g cap cs, v = .slice (some ⟨g, 0, none⟩) l.length cap ∧ B ≤ g ∧ g < W.heap.size ∧ CellsAt cs g (i * sz) W ∧ cs.length = sz ∧ E l[i] cs W := by
  have hlen := h.len
  have hic : i < css.length := by omega
  obtain ⟨a, cap, hv, hg⟩ := own_shape h.own
  obtain ⟨g, rfl, hB, hlt, hc⟩ := hg (by omega)
  have hsz := h.sz _ (List.getElem_mem hic)
  refine ⟨g, cap, css[i], by rw [hv, hlen], hB, hlt, fun j u hj => ?_, hsz, h.each i hic hi⟩
  have hjs : j < sz := by rw [← hsz]; exact (List.getElem?_eq_some_iff.1 hj).1
  refine hc _ u ?_
  rw [flat_get css h.sz i hic j hjs, hj]
theorem fit_dup {d : Df} (h : totD d ≤ 400) (hb : ∀ x ∈ d.boxes, FitIs x.items) {p : Pd} (hp : p ∈ d.prods) : FitD ⟨d.start, d.layout, d.prods ++ [p], d.chains, d.follows, d.rejects, d.boxes⟩ := by
  have hf := tot_fit h hb
  rw [totD_eq] at h
  unfold base0 at h
  have hp1 := sum_ge (fun p : Pd => p.syms.length) d.prods p hp
  refine ⟨⟨by rw [List.length_append]; simp; omega, fun q hq => ?_, ?_, hf.s.ct, hf.s.bl⟩, hf.cl, hf.gl, hf.nl, hf.bx⟩
  · rcases List.mem_append.1 hq with hq | hq
    · exact hf.s.sl q hq
    · simp at hq; subst hq; exact hf.s.sl q hp
  · unfold usedL
    simp only [List.length_append, List.length_map, rejN_len, List.flatMap_append]
    have h1 := flatN_le namesL (fun p => namesOf_len p.syms) d.prods
    have h2 := namesOf_len p.syms
    have h3 : ([p].flatMap namesL).length = (namesL p).length := by simp
    have h4 : (namesL p).length ≤ p.syms.length := h2
    omega
theorem fit_box {d : Df} (h : totD d ≤ 400) (hb : ∀ x ∈ d.boxes, FitIs x.items) (s : ByteArray) : FitD ⟨d.start, d.layout, d.prods, d.chains, d.follows, d.rejects, d.boxes ++ [⟨s, []⟩]⟩ := by
  have hf := tot_fit h hb
  rw [totD_eq] at h
  unfold base0 at h
  refine ⟨⟨hf.s.pl, hf.s.sl, hf.s.ul, hf.s.ct, by rw [List.length_append]; simp; omega⟩, hf.cl, hf.gl, hf.nl, fun x hx => ?_⟩
  rcases List.mem_append.1 hx with hx | hx
  · exact hf.bx x hx
  · simp at hx; subst hx; exact ⟨by simp, fun y hy => by cases hy⟩
/-- One more is appended to the copy. -/
theorem Cpd.pushP {d : Df} {B : Nat} {vP vC vF vR vB : Value} {cP cC cF cR cB : List (List Value)} {W W2 wz : World} {v' : Value} {cs : List Value} {x : Pd} (h : Cpd d B vP vC vF vR vB cP cC cF cR cB W) (hb : Below W.heap.size W W2) (ho : wz.ownsRow B 38 5 v' (cP.length + 1) (cP.flatten ++ cs)) (hg : W2.grownBy wz vP.ownBlock) (hc : cs.length = 5) (hx : EP x cs W2) {ky : Nat} {y : Array Value} (hy : Blk W ky y 28) : Blk wz ky y 28 ∧ Blk (wz.setCell ⟨ky, 2, none⟩ v') ky (y.setIfInBounds 2 v') 28 ∧ Cpd ⟨d.start, d.layout, d.prods ++ [x], d.chains, d.follows, d.rejects, d.boxes⟩ B v' vC vF vR vB (cP ++ [cs]) cC cF cR cB (wz.setCell ⟨ky, 2, none⟩ v') := by
  have h2 := h.below hb
  have hy2 := hy.below hb
  have hyz := hy2.grown hg (hy2.own_ne h2.p.own (by decide))
  have ht : Touch W2 wz 38 := Touch.of_own h2.p.own hg
  have hs : Touch wz (wz.setCell ⟨ky, 2, none⟩ v') 28 := Touch.set hyz v'
  refine ⟨hyz, hyz.set 2 v', ?_⟩
  exact ⟨(h2.p.push ho rfl hc ht (EP.st (by decide)) hx).touch hs (by decide) (EP.st (by decide)), (h2.c.touch ht (by decide) (EC.st (by decide) (by decide))).touch hs (by decide) (EC.st (by decide) (by decide)), (h2.f.touch ht (by decide) (EF.st)).touch hs (by decide) (EF.st), (h2.r.touch ht (by decide) (ER.st)).touch hs (by decide) (ER.st), (h2.b.touch ht (by decide) (EB.st (by decide))).touch hs (by decide) (EB.st (by decide))⟩
/-- One more is appended to the copy. -/
theorem Cpd.pushB {d : Df} {B : Nat} {vP vC vF vR vB : Value} {cP cC cF cR cB : List (List Value)} {W W2 wz : World} {v' : Value} {cs : List Value} {x : Bx} (h : Cpd d B vP vC vF vR vB cP cC cF cR cB W) (hb : Below W.heap.size W W2) (ho : wz.ownsRow B 53 2 v' (cB.length + 1) (cB.flatten ++ cs)) (hg : W2.grownBy wz vB.ownBlock) (hc : cs.length = 2) (hx : EB x cs W2) {ky : Nat} {y : Array Value} (hy : Blk W ky y 28) : Blk wz ky y 28 ∧ Blk (wz.setCell ⟨ky, 6, none⟩ v') ky (y.setIfInBounds 6 v') 28 ∧ Cpd ⟨d.start, d.layout, d.prods, d.chains, d.follows, d.rejects, d.boxes ++ [x]⟩ B vP vC vF vR v' cP cC cF cR (cB ++ [cs]) (wz.setCell ⟨ky, 6, none⟩ v') := by
  have h2 := h.below hb
  have hy2 := hy.below hb
  have hyz := hy2.grown hg (hy2.own_ne h2.b.own (by decide))
  have ht : Touch W2 wz 53 := Touch.of_own h2.b.own hg
  have hs : Touch wz (wz.setCell ⟨ky, 6, none⟩ v') 28 := Touch.set hyz v'
  refine ⟨hyz, hyz.set 6 v', ?_⟩
  exact ⟨(h2.p.touch ht (by decide) (EP.st (by decide))).touch hs (by decide) (EP.st (by decide)), (h2.c.touch ht (by decide) (EC.st (by decide) (by decide))).touch hs (by decide) (EC.st (by decide) (by decide)), (h2.f.touch ht (by decide) (EF.st)).touch hs (by decide) (EF.st), (h2.r.touch ht (by decide) (ER.st)).touch hs (by decide) (ER.st), (h2.b.push ho rfl hc ht (EB.st (by decide)) hx).touch hs (by decide) (EB.st (by decide))⟩
end Go.Proofs.Ytalicfpcmcbdbaa
