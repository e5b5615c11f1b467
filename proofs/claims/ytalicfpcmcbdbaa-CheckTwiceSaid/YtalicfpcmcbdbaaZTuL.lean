/- Rows that are turned. -/
import Derived.Test.YtalicfpcmcbdbaaZTurn
import Derived.Test.YtalicfpcmcbdbaaZPerm
set_option linter.unusedVariables false
set_option linter.unusedSimpArgs false
set_option linter.unnecessarySimpa false
set_option linter.deprecated false
namespace Go.Proofs.Ytalicfpcmcbdbaa
open Go.RowKit

theorem info38 : (Try.prog.info? 38).map (fun i => (i.zero, i.size, i.bytes)) = some (some (.agg #[.bool false, .string ⟨#[]⟩, .string ⟨#[]⟩, .bool false, .slice none 0 0]), 5, 72) := by kernel_rfl
theorem info48 : (Try.prog.info? 48).map (fun i => (i.zero, i.size, i.bytes)) = some (some (.agg #[.string ⟨#[]⟩, .int .u64 0, .int .u64 0, .int .u64 0, .int .u64 0]), 5, 48) := by kernel_rfl
theorem info50 : (Try.prog.info? 50).map (fun i => (i.zero, i.size, i.bytes)) = some (some (.agg #[.string ⟨#[]⟩, .string ⟨#[]⟩]), 2, 32) := by kernel_rfl
theorem info53 : (Try.prog.info? 53).map (fun i => (i.zero, i.size, i.bytes)) = some (some (.agg #[.string ⟨#[]⟩, .slice none 0 0]), 2, 40) := by kernel_rfl
/-- The first k of a list's things, from place b on and then from the beginning. -/
def rotT {α : Type} (l : List α) (b k : Nat) : List α := (rotI l.length b k).filterMap (fun i => l[i]?)
theorem rotT_snoc {α : Type} (l : List α) (b k r : Nat) (hr : (k + b) % l.length = r) (h : r < l.length) : rotT l b (k + 1) = rotT l b k ++ [l[r]] := by
  unfold rotT
  rw [rotI_snoc, List.filterMap_append, hr]
  simp [List.getElem?_eq_getElem h]
theorem rotT_len {α : Type} (l : List α) (b k : Nat) (h : 0 < l.length ∨ k = 0) : (rotT l b k).length = k := by
  induction k with
  | zero => rfl
  | succ k ih =>
    rcases h with h | h
    · rw [rotT_snoc l b k _ rfl (Nat.mod_lt _ h), List.length_append, ih (Or.inl h)]; rfl
    · cases h
theorem take_map {α : Type} (l : List α) : ∀ k, k ≤ l.length → (List.range k).filterMap (fun i => l[i]?) = l.take k
  | 0, _ => by simp
  | k + 1, h => by
    rw [List.range_succ, List.filterMap_append, take_map l k (by omega), take_snoc l k (by omega)]
    simp [List.getElem?_eq_getElem (show k < l.length by omega)]
theorem rotI_perm (n b : Nat) (h : b < n) : (rotI n b n).Perm (List.range n) := by
  have e : rotI n b n = List.range' b (n - b) ++ List.range b := by
    apply List.ext_getElem
    · rw [rotI_len, List.length_append, List.length_range', List.length_range]; omega
    · intro i h1 h2
      rw [rotI_len] at h1
      have hgi : (rotI n b n)[i] = (i + b) % n := by simp [rotI]
      rw [hgi]
      by_cases hi : i < n - b
      · rw [List.getElem_append_left (by rw [List.length_range']; exact hi), List.getElem_range', Nat.mod_eq_of_lt (by omega)]; omega
      · rw [List.getElem_append_right (by rw [List.length_range']; omega), List.getElem_range, List.length_range', Nat.mod_eq_sub_mod (by omega), Nat.mod_eq_of_lt (by omega)]; omega
  have e2 : List.range n = List.range b ++ List.range' b (n - b) := by
    rw [List.range_eq_range', List.range_eq_range', show List.range' 0 n = List.range' 0 (b + (n - b)) by rw [show b + (n - b) = n by omega], ← List.range'_append]
    simp
  rw [e, e2]
  exact List.perm_append_comm
theorem rotT_perm {α : Type} (l : List α) (b : Nat) (h : 0 < l.length → b < l.length) : l.Perm (rotT l b l.length) := by
  by_cases h0 : l.length = 0
  · have : l = [] := List.eq_nil_of_length_eq_zero h0
    subst this; exact List.Perm.refl _
  · have h1 := (rotI_perm l.length b (h (by omega))).filterMap (fun i => l[i]?)
    rw [take_map l l.length (Nat.le_refl _), List.take_length] at h1
    exact h1.symm
theorem flat_get {sz : Nat} : ∀ (css : List (List Value)), (∀ cs ∈ css, cs.length = sz) → ∀ i (h : i < css.length) j, j < sz → css.flatten[i * sz + j]? = (css[i])[j]?
  | [], _, i, h, _, _ => absurd h (by simp)
  | c :: css, hs, 0, h, j, hj => by
    have := hs c (List.mem_cons_self ..)
    simp only [Nat.zero_mul, Nat.zero_add, List.flatten_cons, List.getElem_cons_zero]
    rw [List.getElem?_append_left (by omega)]
  | c :: css, hs, i + 1, h, j, hj => by
    have h1 := hs c (List.mem_cons_self ..)
    simp only [List.flatten_cons, List.getElem_cons_succ]
    rw [List.getElem?_append_right (by rw [h1, Nat.add_mul]; omega), h1, show (i + 1) * sz + j - sz = i * sz + j by rw [Nat.add_mul]; omega]
    exact flat_get css (fun cs hc => hs cs (List.mem_cons_of_mem _ hc)) i (by simpa using h) j hj
/-- A row of one's own of things that are more than a cell, whose cells read so in every later world. -/
structure TuL {α : Type} (At : α → Nat → Nat → World → Prop) (w1 : World) (B : Nat) (e : TypeId) (sz : Nat) (l : List α) (v : Value) (css : List (List Value)) (W : World) : Prop where
  own : W.ownsRow B e sz v css.length css.flatten
  len : css.length = l.length
  sz : ∀ cs ∈ css, cs.length = sz
  at_ : ∀ i (h : i < css.length) (h2 : i < l.length), ∀ W', Below w1.heap.size w1 W' → ∀ b o, CellsAt css[i] b o W' → At l[i] b o W'
theorem TuL.nil {α : Type} {At : α → Nat → Nat → World → Prop} (w1 : World) (B : Nat) (e : TypeId) (sz : Nat) (W : World) : TuL At w1 B e sz [] (.slice none 0 0) [] W :=
  ⟨World.ownsRow_nil _ _ _ _, rfl, fun _ h => (by cases h), fun i h => absurd h (by simp)⟩
theorem TuL.kept {α : Type} {At : α → Nat → Nat → World → Prop} {w1 : World} {B : Nat} {e : TypeId} {sz : Nat} {l : List α} {v : Value} {css : List (List Value)} {W W' : World} (h : TuL At w1 B e sz l v css W) {row : Option Nat} (hg : W.grownBy W' row) (hne : v.ownBlock = none ∨ v.ownBlock ≠ row) : TuL At w1 B e sz l v css W' :=
  ⟨h.own.kept hg hne, h.len, h.sz, h.at_⟩
theorem TuL.push {α : Type} {At : α → Nat → Nat → World → Prop} {w1 : World} {B : Nat} {e : TypeId} {sz : Nat} {l : List α} {v v' : Value} {css : List (List Value)} {W W' : World} {cs : List Value} {x : α} {m : Nat} (h : TuL At w1 B e sz l v css W) (ho : W'.ownsRow B e sz v' m (css.flatten ++ cs)) (hm : m = css.length + 1) (hc : cs.length = sz)
    (hat : ∀ W', Below w1.heap.size w1 W' → ∀ b o, CellsAt cs b o W' → At x b o W') : TuL At w1 B e sz (l ++ [x]) v' (css ++ [cs]) W' := by
  subst hm
  refine ⟨by rw [List.length_append, List.flatten_append]; simpa using ho, by rw [List.length_append, List.length_append, h.len]; rfl, fun c hcm => ?_, fun i hi hi2 W2 hb b o hcc => ?_⟩
  · rcases List.mem_append.1 hcm with h1 | h1
    · exact h.sz c h1
    · simp at h1; subst h1; exact hc
  · by_cases hil : i < css.length
    · rw [List.getElem_append_left hil] at hcc
      rw [List.getElem_append_left (by rw [← h.len]; exact hil)]
      exact h.at_ i hil (by rw [← h.len]; exact hil) W2 hb b o hcc
    · have hie : i = css.length := by rw [List.length_append] at hi; simp at hi; omega
      subst hie
      rw [List.getElem_append_right (Nat.le_refl _)] at hcc
      rw [List.getElem_append_right (by rw [h.len]; exact Nat.le_refl _)]
      simp only [Nat.sub_self, List.getElem_cons_zero, h.len] at hcc ⊢
      exact hat W2 hb b o hcc
theorem TuL.row {α : Type} {At : α → Nat → Nat → World → Prop} {w1 : World} {B : Nat} {e : TypeId} {sz : Nat} {l : List α} {v : Value} {css : List (List Value)} {W : World} (h : TuL At w1 B e sz l v css W) (hb : Below w1.heap.size w1 W) (hl : l.length ≤ 100000) : ∃ a c, v = .slice a l.length c ∧ Row At sz l a W ∧ l.length ≤ c := by
  have hlen := h.len
  rcases h.own.2 with ⟨h1, h0⟩ | ⟨g, cap, cur, h1, h2, h3, h4, h5, h6, h7⟩
  · have hl0 : l.length = 0 := by omega
    have : l = [] := List.eq_nil_of_length_eq_zero hl0
    subst this
    exact ⟨none, 0, h1, Row.nil, Nat.le_refl _⟩
  · refine ⟨some ⟨g, 0, none⟩, cap, by rw [h1, hlen], ⟨by omega, fun hn => ⟨g, 0, rfl, (Array.getElem?_eq_some_iff.1 h3).1, fun i hi => ?_⟩⟩, by omega⟩
    have hic : i < css.length := by omega
    refine h.at_ i hic hi W hb g (0 + i * sz) fun j u hj => ?_
    have hsz := h.sz _ (List.getElem_mem hic)
    have hjs : j < sz := by rw [← hsz]; exact (List.getElem?_eq_some_iff.1 hj).1
    have hbk : Blk W g cur e := h3
    have hf := flat_get css h.sz i hic j hjs
    rw [hj, ← h7, List.getElem?_take] at hf
    rw [hbk.cell, Nat.zero_add]
    split at hf
    · rw [← hf]; simp
    · cases hf
theorem own_apart {W : World} {B B' n n' size size' : Nat} {e e' : TypeId} {v v' : Value} {xs xs' : List Value} (h : W.ownsRow B e size v n xs) (h' : W.ownsRow B' e' size' v' n' xs') (he : e ≠ e') : v.ownBlock = none ∨ v.ownBlock ≠ v'.ownBlock := by
  rcases h.2 with ⟨rfl, _⟩ | ⟨g, cap, cur, rfl, _, hg, _⟩
  · exact Or.inl rfl
  · right
    intro e1
    rcases h'.2 with ⟨rfl, _⟩ | ⟨g', cap', cur', rfl, _, hg', _⟩
    · cases e1
    · simp only [Value.ownBlock, Option.some.injEq] at e1
      subst e1
      rw [hg] at hg'
      injection hg' with hg'
      injection hg' with _ h3 _
      exact he h3
end Go.Proofs.Ytalicfpcmcbdbaa
