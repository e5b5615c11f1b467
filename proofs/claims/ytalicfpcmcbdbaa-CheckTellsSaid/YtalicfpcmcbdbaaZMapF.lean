/- A map from strings to numbers, as a function. -/
import Derived.Test.YtalicfpcmcbdbaaZData
import Derived.Maps.RangeWalk
set_option linter.unusedVariables false
set_option linter.unusedSimpArgs false
set_option linter.unnecessarySimpa false
set_option linter.deprecated false
namespace Go.Proofs.Ytalicfpcmcbdbaa
open Go.RowKit

theorem keyOf_str (s : ByteArray) (h : short s) : keyOf Try.prog 9 (.string s) = some (.string s.data.toList) := by
  unfold keyOf
  simp only [Try.underlying9]
  unfold mapKey
  simp only [Try.underlying9]
  rw [if_pos (by unfold short at h; unfold maxLen; omega)]
theorem K9 : Maps.Keyed Try.prog 9 := Maps.string_keyed Try.underlying9
theorem isKeyLit_str (l : List UInt8) : WideAt.IsKeyLit (.string l) := by trivial
theorem str_inj {s t : ByteArray} (h : s ≠ t) : (Lit.string s.data.toList) ≠ Lit.string t.data.toList := by
  intro e
  injection e with e
  apply h
  obtain ⟨⟨s⟩⟩ := s
  obtain ⟨⟨t⟩⟩ := t
  simpa using e
/-- What a map holds: at each name a number, at the names that it has one that is not nought. -/
structure Hold (D : DataW Unit) (f : ByteArray → Int) : Prop where
  m : Maps.IsMap D
  at_ : ∀ s : ByteArray, D.atKey (.string s.data.toList) (.lit (.int .i64 0)) = .lit (.int .i64 (f s))
  has : ∀ kl, Maps.has D kl = true → ∃ s : ByteArray, short s ∧ kl = .string s.data.toList ∧ f s ≠ 0
  not : ∀ s : ByteArray, Maps.has D (.string s.data.toList) = false → f s = 0
/-- Block b is a map of at most n entries, that holds at each name what f says. -/
def MapF (W : World) (b n : Nat) (f : ByteArray → Int) : Prop := ∃ D : DataW Unit, W.ownsMap Try.prog 9 (plainElem Try.prog 3) b n D ∧ Hold D f
def upd (f : ByteArray → Int) (s : ByteArray) (v : Int) : ByteArray → Int := fun t => if t = s then v else f t
theorem Hold.empty : Hold (.map []) (fun _ => 0) := ⟨⟨[], rfl⟩, fun s => rfl, fun kl h => by simp [Maps.has] at h, fun s _ => rfl⟩
theorem MapF.made (w : World) : MapF (w.alloc (.map #[] 0)) w.heap.size 0 (fun _ => 0) := ⟨_, World.ownsMap_made w Try.prog 9 _, Hold.empty⟩
theorem MapF.below {W W' : World} {b n : Nat} {f : ByteArray → Int} (h : MapF W b n f) (hb : Below W.heap.size W W') : MapF W' b n f := by
  obtain ⟨D, ⟨es, clock, h1, h2⟩, hh⟩ := h
  exact ⟨D, ⟨es, clock, (hb.block b (Array.getElem?_eq_some_iff.1 h1).1).trans h1, h2⟩, hh⟩
theorem MapF.drew {W : World} {b n : Nat} {f : ByteArray → Int} (h : MapF W b n f) : MapF W.drew b n f := h
theorem MapF.lt {W : World} {b n : Nat} {f : ByteArray → Int} (h : MapF W b n f) : b < W.heap.size := by
  obtain ⟨D, h1, _⟩ := h
  exact h1.lt
theorem MapF.grown {W W' : World} {b n : Nat} {f : ByteArray → Int} {row : Option Nat} (h : MapF W b n f) (hg : W.grownBy W' row) (hne : some b ≠ row) : MapF W' b n f := by
  obtain ⟨D, h1, hh⟩ := h
  exact ⟨D, h1.kept hg hne, hh⟩
theorem MapF.mono {W : World} {b n m : Nat} {f : ByteArray → Int} (h : MapF W b n f) (hn : n ≤ m) : MapF W b m f := by
  obtain ⟨D, h1, hh⟩ := h
  exact ⟨D, h1.mono hn, hh⟩
/-- A map's block is no block of cells. -/
theorem MapF.ne_blk {W : World} {b n k : Nat} {f : ByteArray → Int} {c : Array Value} {t : TypeId} (h : MapF W b n f) (hb : Blk W k c t) : b ≠ k := by
  obtain ⟨D, ⟨es, clock, h1, _⟩, _⟩ := h
  rintro rfl
  unfold Blk at hb
  rw [h1] at hb
  cases hb
theorem MapF.ne_own {W : World} {b n B size m : Nat} {e : TypeId} {v : Value} {xs : List Value} {f : ByteArray → Int} (h : MapF W b n f) (ho : W.ownsRow B e size v m xs) : some b ≠ v.ownBlock := by
  obtain ⟨D, ⟨es, clock, h1, _⟩, _⟩ := h
  rcases ho.2 with ⟨rfl, _⟩ | ⟨g, cap, cur, rfl, _, hg, _⟩
  · simp [Value.ownBlock]
  · intro e1
    simp only [Value.ownBlock, Option.some.injEq] at e1
    subst e1
    rw [h1] at hg
    cases hg
theorem MapF.set {W : World} {b n k i : Nat} {f : ByteArray → Int} {c : Array Value} {t : TypeId} (h : MapF W b n f) (hb : Blk W k c t) (u : Value) : MapF (W.setCell ⟨k, i, none⟩ u) b n f := by
  have hne := h.ne_blk hb
  obtain ⟨D, h1, hh⟩ := h
  exact ⟨D, h1.setCell (a := ⟨k, i, none⟩) hne u, hh⟩
set_option maxRecDepth 100000 in
theorem zero3 (w : World) : (zeroValue 3).run Try.prog w = .ok (.int .i64 0) w := by kernel_rfl
/-- What a look-up runs to. -/
theorem MapF.look {W : World} {b n : Nat} {f : ByteArray → Int} (h : MapF W b n f) (s : ByteArray) (hs : short s) : (Instr.lookup 85 (.map (some b)) (.string s) false).run Try.prog W = .ok (.int .i64 (f s)) W := by
  obtain ⟨D, h1, hh⟩ := h
  obtain ⟨c, hr, hat, _⟩ := h1.lookup_int K9 Try.underlying85 Try.underlying3 (zero3 W) (keyOf_str s hs)
  rw [hh.at_ s] at hat
  have hat2 : f s = c := by
    have := DataW.lit.inj hat
    exact (Lit.int.inj this).2
  rw [hat2]
  exact hr
theorem Hold.put {D : DataW Unit} {f : ByteArray → Int} (h : Hold D f) (s : ByteArray) (v : Int) (hs : short s) (hv : v ≠ 0) : Hold (D.put (.string s.data.toList) (.lit (.int .i64 v))) (upd f s v) := by
  refine ⟨?_, fun t => ?_, fun kl hk => ?_, fun t ht => ?_⟩
  · obtain ⟨es, rfl⟩ := h.m
    exact ⟨_, rfl⟩
  · unfold upd
    by_cases e : t = s
    · subst e
      rw [if_pos rfl, Maps.atKey_put_same h.m (isKeyLit_str _)]
    · rw [if_neg e, Maps.atKey_put_other (str_inj e), h.at_ t]
  · by_cases e : kl = .string s.data.toList
    · exact ⟨s, hs, e, by unfold upd; rw [if_pos rfl]; exact hv⟩
    · rw [Maps.has_put_other e] at hk
      obtain ⟨t, h1, h2, h3⟩ := h.has kl hk
      refine ⟨t, h1, h2, ?_⟩
      unfold upd
      split
      · exact hv
      · exact h3
  · unfold upd
    by_cases e : t = s
    · subst e
      rw [Maps.has_put_same h.m (isKeyLit_str _)] at ht
      cases ht
    · rw [if_neg e]
      rw [Maps.has_put_other (str_inj e)] at ht
      exact h.not t ht
/-- 'm[s] = v' at the operation. -/
theorem wpList_update {w : World} {ops : Array Oper} {rest : List Oper} {o : Oper} {a : Act} {Q : Exit → Act → World → Prop} (hg : o.guard = none) (m x v : Operand) (hop : o.op = Op.mapUpdate 85 m x v)
    (b n : Nat) (f : ByteArray → Int) (hm : a.eval m = .map (some b)) (hown : MapF w b n f) (hn : n < 1000000) (s : ByteArray) (hs : short s) (y : Int) (hy0 : y ≠ 0) (hy : i64 y) (hx : a.eval x = .string s) (hv : a.eval v = .int .i64 y)
    (hK : ∀ w', MapF w' b (n + 1) (upd f s y) → w.grownBy w' (some b) → wpList Try.prog ops Q rest (a.put o.dst undef) w') : wpList Try.prog ops Q (o :: rest) a w := by
  obtain ⟨D, h1, hh⟩ := hown
  refine wpList_mapUpdate_own w hg m x v 85 hop 9 3 K9 Try.underlying85 _ b n D hm h1 (by unfold maxLen; omega) (.string s) (.int .i64 y) (.string s.data.toList) hx hv (keyOf_str s hs) (.lit (.int .i64 y)) [] (plainElem_int Try.underlying3 ?_) ?_
  · simp only [Lit.wf, Bool.and_eq_true, decide_eq_true_eq]
    exact hy
  · intro w' h2 hg2
    exact hK w' ⟨_, h2, hh.put s y hs hy0⟩ hg2
end Go.Proofs.Ytalicfpcmcbdbaa
