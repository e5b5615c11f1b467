/- Copies in memory. -/
import Derived.Test.YtalicfpcmcbdbaaZTuL
import Derived.Test.YtalicfpcmcbdbaaZLexF
import Derived.Test.YtalicfpcmcbdbaaZBare
set_option linter.unusedVariables false
set_option linter.unusedSimpArgs false
set_option linter.unnecessarySimpa false
set_option linter.deprecated false
namespace Go.Proofs.Ytalicfpcmcbdbaa
open Go.RowKit

/-- Nothing of what stood has turned but in a block of that type. -/
def Touch (W W' : World) (t : TypeId) : Prop := ∃ row, W.grownBy W' row ∧ ∀ g, row = some g → ∃ c, Blk W g c t
theorem Touch.own {W W' : World} {t : TypeId} (ht : Touch W W' t) {B n size : Nat} {e : TypeId} {v : Value} {xs : List Value} (h : W.ownsRow B e size v n xs) (hne : e ≠ t) : W'.ownsRow B e size v n xs := by
  obtain ⟨row, hg, hr⟩ := ht
  refine h.kept hg ?_
  rcases h.2 with ⟨rfl, _⟩ | ⟨g, cap, cur, rfl, _, hgg, _⟩
  · exact Or.inl rfl
  · refine Or.inr fun e1 => ?_
    obtain ⟨c, hc⟩ := hr g e1.symm
    unfold Blk at hc
    rw [hgg] at hc
    injection hc with hc
    injection hc with _ h3 _
    exact hne h3
theorem Touch.blk {W W' : World} {t t' : TypeId} (ht : Touch W W' t) {g : Nat} {c : Array Value} (h : Blk W g c t') (hne : t' ≠ t) : Blk W' g c t' := by
  obtain ⟨row, hg, hr⟩ := ht
  refine h.grown hg fun e1 => ?_
  obtain ⟨c', hc⟩ := hr g e1.symm
  exact h.ne hc hne rfl
theorem Touch.of_below {W W' : World} {t : TypeId} (h : Below W.heap.size W W') : Touch W W' t := ⟨none, ⟨h.os, h.tape, h.output, h.size, fun k hk _ => h.block k hk⟩, fun g h => by cases h⟩
theorem Touch.of_own {W W' : World} {B n size : Nat} {e : TypeId} {v : Value} {xs : List Value} (h : W.ownsRow B e size v n xs) (hg : W.grownBy W' v.ownBlock) : Touch W W' e := by
  refine ⟨_, hg, fun g e1 => ?_⟩
  rcases h.2 with ⟨rfl, _⟩ | ⟨g', cap, cur, rfl, _, hgg, _⟩
  · cases e1
  · simp only [Value.ownBlock, Option.some.injEq] at e1
    subst e1
    exact ⟨cur, hgg⟩
theorem Touch.set {W : World} {g i : Nat} {c : Array Value} {t : TypeId} (h : Blk W g c t) (u : Value) : Touch W (W.setCell ⟨g, i, none⟩ u) t := ⟨some g, grown_cell _ _ _ _, fun g' e => by injection e with e; subst e; exact ⟨c, h⟩⟩
/-- A row of one's own of things whose cells (and what these lead to) are one's own, too. -/
structure OwnE {α : Type} (E : α → List Value → World → Prop) (B : Nat) (e : TypeId) (sz : Nat) (l : List α) (v : Value) (css : List (List Value)) (W : World) : Prop where
  own : W.ownsRow B e sz v css.length css.flatten
  len : css.length = l.length
  sz : ∀ cs ∈ css, cs.length = sz
  each : ∀ i (h : i < css.length) (h2 : i < l.length), E l[i] css[i] W
theorem OwnE.nil {α : Type} {E : α → List Value → World → Prop} (B : Nat) (e : TypeId) (sz : Nat) (W : World) : OwnE E B e sz [] (.slice none 0 0) [] W :=
  ⟨World.ownsRow_nil _ _ _ _, rfl, fun _ h => (by cases h), fun i h => absurd h (by simp)⟩
theorem OwnE.keep {α : Type} {E E' : α → List Value → World → Prop} {B : Nat} {e : TypeId} {sz : Nat} {l : List α} {v : Value} {css : List (List Value)} {W W' : World} (h : OwnE E B e sz l v css W) (ho : W'.ownsRow B e sz v css.length css.flatten) (hs : ∀ x cs, E x cs W → E' x cs W') : OwnE E' B e sz l v css W' :=
  ⟨ho, h.len, h.sz, fun i h1 h2 => hs _ _ (h.each i h1 h2)⟩
/-- What things are stays when a block of type t is touched. -/
def StT {α : Type} (E : α → List Value → World → Prop) (t : TypeId) : Prop := ∀ x cs W W', Touch W W' t → E x cs W → E x cs W'
theorem OwnE.touch {α : Type} {E : α → List Value → World → Prop} {B : Nat} {e t : TypeId} {sz : Nat} {l : List α} {v : Value} {css : List (List Value)} {W W' : World} (h : OwnE E B e sz l v css W) (ht : Touch W W' t) (hne : e ≠ t) (hs : StT E t) : OwnE E B e sz l v css W' :=
  ⟨ht.own h.own hne, h.len, h.sz, fun i h1 h2 => hs _ _ _ _ ht (h.each i h1 h2)⟩
theorem OwnE.below {α : Type} {E : α → List Value → World → Prop} {B : Nat} {e : TypeId} {sz : Nat} {l : List α} {v : Value} {css : List (List Value)} {W W' : World} (h : OwnE E B e sz l v css W) (hb : Below W.heap.size W W') (hs : ∀ t, t = 28 → StT E t) : OwnE E B e sz l v css W' :=
  ⟨own_below h.own hb, h.len, h.sz, fun i h1 h2 => hs 28 rfl _ _ _ _ (Touch.of_below hb) (h.each i h1 h2)⟩
theorem OwnE.base {α : Type} {E : α → List Value → World → Prop} {B B' : Nat} {e : TypeId} {sz : Nat} {l : List α} {v : Value} {css : List (List Value)} {W : World} (h : OwnE E B e sz l v css W) (hB : B' ≤ B) : OwnE E B' e sz l v css W := ⟨own_base h.own hB, h.len, h.sz, h.each⟩
theorem OwnE.pushG {α : Type} {E E' : α → List Value → World → Prop} {B : Nat} {e : TypeId} {sz : Nat} {l : List α} {v v' : Value} {css : List (List Value)} {W W' : World} {cs : List Value} {x : α} {m : Nat} (h : OwnE E B e sz l v css W) (ho : W'.ownsRow B e sz v' m (css.flatten ++ cs)) (hm : m = css.length + 1) (hc : cs.length = sz)
    (hs : ∀ x cs, E x cs W → E' x cs W') (hx : E x cs W) : OwnE E' B e sz (l ++ [x]) v' (css ++ [cs]) W' := by
  subst hm
  refine ⟨by rw [List.length_append, List.flatten_append]; simpa using ho, by rw [List.length_append, List.length_append, h.len]; rfl, fun c hcm => ?_, fun i hi hi2 => ?_⟩
  · rcases List.mem_append.1 hcm with h1 | h1
    · exact h.sz c h1
    · simp at h1; subst h1; exact hc
  · by_cases hil : i < css.length
    · rw [List.getElem_append_left hil, List.getElem_append_left (by rw [← h.len]; exact hil)]
      exact hs _ _ (h.each i hil (by rw [← h.len]; exact hil))
    · have hie : i = css.length := by rw [List.length_append] at hi; simp at hi; omega
      subst hie
      rw [List.getElem_append_right (Nat.le_refl _), List.getElem_append_right (by rw [h.len]; exact Nat.le_refl _)]
      simp only [Nat.sub_self, List.getElem_cons_zero, h.len]
      exact hs _ _ hx
theorem OwnE.push {α : Type} {E : α → List Value → World → Prop} {B : Nat} {e : TypeId} {sz : Nat} {l : List α} {v v' : Value} {css : List (List Value)} {W W' : World} {cs : List Value} {x : α} {m : Nat} (h : OwnE E B e sz l v css W) (ho : W'.ownsRow B e sz v' m (css.flatten ++ cs)) (hm : m = css.length + 1) (hc : cs.length = sz)
    (ht : Touch W W' e) (hs : StT E e) (hx : E x cs W) : OwnE E B e sz (l ++ [x]) v' (css ++ [cs]) W' :=
  h.pushG ho hm hc (fun x cs he => hs _ _ _ _ ht he) hx
theorem OwnE.row {α : Type} {E : α → List Value → World → Prop} {At : α → Nat → Nat → World → Prop} {B : Nat} {e : TypeId} {sz : Nat} {l : List α} {v : Value} {css : List (List Value)} {W : World} (h : OwnE E B e sz l v css W) (hat : ∀ x ∈ l, ∀ cs b o, E x cs W → CellsAt cs b o W → At x b o W) (hl : l.length ≤ 140737488351232) : ∃ a c, v = .slice a l.length c ∧ Row At sz l a W ∧ l.length ≤ c := by
  have hlen := h.len
  rcases h.own.2 with ⟨h1, h0⟩ | ⟨g, cap, cur, h1, h2, h3, h4, h5, h6, h7⟩
  · have hl0 : l.length = 0 := by omega
    have : l = [] := List.eq_nil_of_length_eq_zero hl0
    subst this
    exact ⟨none, 0, h1, Row.nil, Nat.le_refl _⟩
  · refine ⟨some ⟨g, 0, none⟩, cap, by rw [h1, hlen], ⟨hl, fun hn => ⟨g, 0, rfl, (Array.getElem?_eq_some_iff.1 h3).1, fun i hi => ?_⟩⟩, by omega⟩
    have hic : i < css.length := by omega
    refine hat _ (List.getElem_mem hi) _ g (0 + i * sz) (h.each i hic hi) fun j u hj => ?_
    have hsz := h.sz _ (List.getElem_mem hic)
    have hjs : j < sz := by rw [← hsz]; exact (List.getElem?_eq_some_iff.1 hj).1
    have hbk : Blk W g cur e := h3
    have hf := flat_get css h.sz i hic j hjs
    rw [hj, ← h7, List.getElem?_take] at hf
    rw [hbk.cell, Nat.zero_add]
    split at hf
    · rw [← hf]; simp
    · cases hf
theorem flat_len2 {sz : Nat} : ∀ (css : List (List Value)), (∀ cs ∈ css, cs.length = sz) → css.flatten.length = css.length * sz
  | [], _ => by simp
  | c :: css, hs => by
    rw [List.flatten_cons, List.length_append, flat_len2 css (fun cs hc => hs cs (List.mem_cons_of_mem _ hc)), hs c (List.mem_cons_self ..), List.length_cons, Nat.add_mul]; omega
/-- Where things that are appended come from. -/
def Srcs (a : Option Addr) (m : Nat) (news : List Value) (W : World) : Prop := (a = none ∧ m = 0 ∧ news = []) ∨ ∃ ad, a = some ad ∧ ∀ j u, news[j]? = some u → W.cell? (ad.add j) = some u
theorem run_append_noneC {P : Program} {w : World} (base : Nat) (t ty e : TypeId) (i : TypeInfo) (size c : Nat) (ht : P.underlying t = some (.slice e)) (hi : P.info? e = some i)
    (v : Value) (n : Nat) (xs : List Value) (hown : w.ownsRow base e size v n xs) :
    (Builtin.append_ #[t, t] ty #[v, .slice none 0 c]).run P w = .ok v w := by
  rcases hown.2 with ⟨rfl, rfl⟩ | ⟨g, cap, cur, rfl, _, _, hnc, _⟩
  · simp [Builtin.append_, run_underlying ht, sizeOf, typeInfo, hi, Builtin.lenOf, Builtin.firstCells]
  · simp [Builtin.append_, run_underlying ht, sizeOf, typeInfo, hi, Builtin.lenOf, Builtin.firstCells, hnc, storeCells]
theorem wpList_append_src {P : Program} {w : World} {ops : Array Oper} {rest : List Oper} {o : Oper} {a : Act} {Q : Exit → Act → World → Prop} (hgd : o.guard = none) (s x : Operand) (t : TypeId)
    (ho : o.op = .call { callee := .builtin .append, args := #[s, x], argTypes := #[t, t] })
    (base : Nat) (e : TypeId) (i : TypeInfo) (z : Value) (size bytes : Nat) (ht : P.underlying t = some (.slice e)) (hi : P.info? e = some i) (hz : i.zero = some z)
    (hsize : i.size = size) (hby : i.bytes = bytes) (hzs : z.cells.size = size) (hsz : 0 < size)
    (v : Value) (n : Nat) (xs : List Value) (hs : a.eval s = v) (hown : w.ownsRow base e size v n xs)
    (ax : Option Addr) (m cx : Nat) (news : List Value) (hx : a.eval x = .slice ax m cx) (hsrc : Srcs ax m news w) (hl : news.length = m * size) (h1 : ∀ u ∈ news, u.oneCell' = true)
    (h63 : n + m ≤ maxLen) (hbytes : (n + m) * bytes ≤ 140737488355328) (hbase : base ≤ w.heap.size)
    (h : ∀ v' w', w'.ownsRow base e size v' (n + m) (xs ++ news) → w.grownBy w' v.ownBlock → wpList P ops Q rest (a.put o.dst v') w') : wpList P ops Q (o :: rest) a w := by
  rcases hsrc with ⟨rfl, rfl, rfl⟩ | ⟨ad, rfl, hc⟩
  · refine wpList_plain hgd fun K hK => ?_
    have hrun := run_append_noneC (P := P) (w := w) base t o.type e i size cx ht hi v n xs hown
    unfold Oper.wp
    simp [execOp, ho, resolve, invoke, builtin, hs, hx, hrun, Result.andThen]
    refine hK _ _ (h v w ?_ (World.grownBy.refl _ _))
    rw [List.append_nil, Nat.add_zero]; exact hown
  · exact wpList_append_own w hgd s x t ho base e i z size bytes ht hi hz hsize hby hzs hsz v n xs hs hown ad m cx news hx hl hc h1 h63 hbytes hbase (fun v' w' a1 a2 _ => h v' w' a1 a2)
theorem Row.srcs {α : Type} {At : α → Nat → Nat → World → Prop} {sz : Nat} {l : List α} {a : Option Addr} {W : World} (h : Row At sz l a W) (css : List (List Value)) (hlen : css.length = l.length) (hs : ∀ cs ∈ css, cs.length = sz) (hsz : 0 < sz)
    (hc : ∀ i (h1 : i < css.length) (h2 : i < l.length) b o, At l[i] b o W → CellsAt css[i] b o W) : Srcs a l.length css.flatten W := by
  by_cases hn : l = []
  · subst hn
    have : css = [] := List.eq_nil_of_length_eq_zero hlen
    subst this
    cases a with
    | none => exact Or.inl ⟨rfl, rfl, rfl⟩
    | some ad => exact Or.inr ⟨ad, rfl, fun j u hj => by simp at hj⟩
  · obtain ⟨b, o, rfl, hb, hat⟩ := h.2 hn
    refine Or.inr ⟨_, rfl, fun j u hj => ?_⟩
    have hjl : j < css.length * sz := by
      have := (List.getElem?_eq_some_iff.1 hj).1
      rwa [flat_len2 css hs] at this
    have hi : j / sz < css.length := (Nat.div_lt_iff_lt_mul hsz).2 hjl
    have hjm : j % sz < sz := Nat.mod_lt _ hsz
    have hf := flat_get css hs (j / sz) hi (j % sz) hjm
    rw [show j / sz * sz + j % sz = j by rw [Nat.mul_comm]; exact Nat.div_add_mod j sz, hj] at hf
    have := hc (j / sz) hi (by omega) b (o + j / sz * sz) (hat (j / sz) (by omega)) (j % sz) u hf.symm
    rw [show (⟨b, o, none⟩ : Addr).add j = ⟨b, o + j, none⟩ by unfold Addr.add; split <;> simp_all]
    rw [Nat.add_assoc, show j / sz * sz + j % sz = j by rw [Nat.mul_comm]; exact Nat.div_add_mod j sz] at this
    exact this
end Go.Proofs.Ytalicfpcmcbdbaa
