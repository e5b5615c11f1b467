/- What the walks lean on: blocks, rows of one's own, steps. A definition, as data, and how it lies in memory. -/
import Derived.Test.YtalicfpcmcbdbaaRows
import Derived.WalkKit
import Derived.WalkSpells
import Derived.WalkLawsBesides
import Derived.Laws.AppendOwnNone
import Derived.Laws.OwnMore
import Derived.Laws.StructEq
import Derived.Lib.Hide
import Derived.Laws.IdiomStrings
import Derived.Deep.LoopGhost
import Derived.Deep.CutBlock
import Derived.Deep.DeepCutAuto
import Derived.Deep.RegionHeld3
import Derived.Deep.RegionLaw
import Derived.BigQuiet
import Derived.BigRegion
import Derived.StillTailTactics
import Derived.Maps.AppendAt
import Derived.Maps.OwnOps
import Derived.Maps.OwnSet
import Derived.DeepKeys
set_option linter.unusedVariables false
set_option linter.unusedSimpArgs false
set_option linter.unnecessarySimpa false
set_option linter.deprecated false
namespace Go.Proofs.Ytalicfpcmcbdbaa
open Go.RowKit

/-- A fact kept from the walk. -/
theorem hide {p : Prop} (h : p) : Hid p := h
theorem below_next {w wr w' : World} (h : Below w.heap.size w wr) (k : Below wr.heap.size wr w') : Below w.heap.size w w' := h.trans (k.mono h.size)
/-- Old cells and old marks, by number. -/
theorem bcell {W w1 : World} (hb : Below W.heap.size W w1) : (∀ b o, b < W.heap.size → w1.cell? ⟨b, o, none⟩ = W.cell? ⟨b, o, none⟩) ∧ (∀ b o, b < W.heap.size → w1.frozen? ⟨b, o, none⟩ = W.frozen? ⟨b, o, none⟩) :=
  ⟨fun b o h => hb.cell (p := ⟨b, o, none⟩) h, fun b o h => hb.frozen (p := ⟨b, o, none⟩) h⟩
/-- The blocks that are so stand as they stood. -/
structure Keep (ok : Nat → Prop) (w w' : World) : Prop where
  size : w.heap.size ≤ w'.heap.size
  block : ∀ k, ok k → k < w.heap.size → w'.heap[k]? = w.heap[k]?
theorem Keep.cell {ok : Nat → Prop} {w w' : World} (h : Keep ok w w') {b : Nat} (ho : ok b) (hb : b < w.heap.size) (o : Nat) : w'.cell? ⟨b, o, none⟩ = w.cell? ⟨b, o, none⟩ :=
  World.cell?_of_block (w := w) (h.block b ho hb)
theorem keep_below {ok : Nat → Prop} {w w' : World} (h : Below w.heap.size w w') : Keep ok w w' := ⟨h.size, fun k _ hk => h.block k hk⟩
theorem Keep.refl (ok : Nat → Prop) (w : World) : Keep ok w w := ⟨Nat.le_refl _, fun _ _ _ => rfl⟩
theorem Keep.trans {ok : Nat → Prop} {a b c : World} (h : Keep ok a b) (k : Keep ok b c) : Keep ok a c :=
  ⟨Nat.le_trans h.size k.size, fun i ho hi => (k.block i ho (Nat.lt_of_lt_of_le hi h.size)).trans (h.block i ho hi)⟩
theorem Keep.setS {ok : Nat → Prop} {a w : World} (h : Keep ok a w) {b i : Nat} {v : Value} (hb : ¬ ok b) : Keep ok a (w.setCell ⟨b, i, none⟩ v) :=
  h.trans ⟨by simp [World.setCell], fun k hk _ => Below.heap_setCell _ _ _ _ (by rintro rfl; exact hb hk)⟩
theorem Keep.allocS {ok : Nat → Prop} {a w : World} (h : Keep ok a w) {o : Obj} : Keep ok a (w.alloc o) :=
  h.trans ⟨by simp, fun k _ hk => Below.heap_alloc _ _ _ hk⟩
theorem Keep.drewS {ok : Nat → Prop} {a w : World} (h : Keep ok a w) : Keep ok a w.drew := ⟨h.size, h.block⟩
theorem Keep.drewNS {ok : Nat → Prop} {a w : World} (h : Keep ok a w) {n : Nat} : Keep ok a (w.drewN n) := ⟨h.size, h.block⟩
theorem size_setCell (w : World) (p : Addr) (v : Value) : (w.setCell p v).heap.size = w.heap.size := by simp [World.setCell]
/-- A whole block. -/
def Blk (w : World) (k : Nat) (c : Array Value) (t : TypeId) : Prop := w.heap[k]? = some (.cells c t (0, 0))
theorem Blk.cell {w : World} {k : Nat} {c : Array Value} {t : TypeId} (h : Blk w k c t) (i : Nat) : w.cell? ⟨k, i, none⟩ = c[i]? := by
  unfold Blk at h
  simp [World.cell?, h]
theorem Blk.free {w : World} {k : Nat} {c : Array Value} {t : TypeId} (h : Blk w k c t) (i : Nat) : w.frozen? ⟨k, i, none⟩ = false := by
  unfold Blk at h
  simp [World.frozen?, h]
theorem Blk.lt {w : World} {k : Nat} {c : Array Value} {t : TypeId} (h : Blk w k c t) : k < w.heap.size := (Array.getElem?_eq_some_iff.1 h).1
theorem Blk.new (w : World) (c : Array Value) (t : TypeId) : Blk (w.alloc (.cells c t)) w.heap.size c t := by
  show (w.heap.push _)[w.heap.size]? = _
  simp
theorem Blk.alloc {w : World} {k : Nat} {c : Array Value} {t : TypeId} (h : Blk w k c t) (o : Obj) : Blk (w.alloc o) k c t :=
  (Below.heap_alloc w o k h.lt).trans h
theorem Blk.keep {ok : Nat → Prop} {w w' : World} {k : Nat} {c : Array Value} {t : TypeId} (h : Blk w k c t) (hk : Keep ok w w') (ho : ok k) : Blk w' k c t := (hk.block k ho h.lt).trans h
theorem Blk.below {w w' : World} {k : Nat} {c : Array Value} {t : TypeId} (h : Blk w k c t) (hb : Below w.heap.size w w') : Blk w' k c t := (hb.block k h.lt).trans h
theorem Blk.ne {w : World} {k k' : Nat} {c c' : Array Value} {t t' : TypeId} (h : Blk w k c t) (h' : Blk w k' c' t') (ht : t ≠ t') : k ≠ k' := by
  rintro rfl
  unfold Blk at h h'
  rw [h] at h'
  injection h' with h'
  injection h' with _ h'
  exact ht h'
theorem Blk.own_ne {w : World} {k : Nat} {c : Array Value} {t : TypeId} (h : Blk w k c t) {B : Nat} {e : TypeId} {size n : Nat} {v : Value} {xs : List Value} (ho : w.ownsRow B e size v n xs) (ht : t ≠ e) : some k ≠ v.ownBlock := by
  rcases ho.2 with ⟨rfl, _⟩ | ⟨g, cap, cur, rfl, _, hg, _⟩
  · simp [Value.ownBlock]
  · intro e1
    simp only [Value.ownBlock, Option.some.injEq] at e1
    exact Blk.ne h (k' := g) hg ht e1
theorem Blk.grown {w w' : World} {k : Nat} {c : Array Value} {t : TypeId} (h : Blk w k c t) {row : Option Nat} (hg : w.grownBy w' row) (hne : some k ≠ row) : Blk w' k c t := (hg.block k h.lt hne).trans h
theorem add_mk (b o n : Nat) : (⟨b, o, none⟩ : Addr).add n = ⟨b, o + n, none⟩ := by
  unfold Addr.add
  split
  · rename_i h; subst h; rfl
  · rfl
theorem own_below {w w' : World} {B : Nat} {e : TypeId} {size n : Nat} {v : Value} {xs : List Value} (h : w.ownsRow B e size v n xs) (hb : Below w.heap.size w w') : w'.ownsRow B e size v n xs := by
  refine ⟨h.1, ?_⟩
  rcases h.2 with h2 | ⟨g, cap, cur, e1, e2, e3, e4⟩
  · exact .inl h2
  · exact .inr ⟨g, cap, cur, e1, e2, (hb.block g (Array.getElem?_eq_some_iff.1 e3).1).trans e3, e4⟩
theorem own_base {w : World} {B B' : Nat} {e : TypeId} {size n : Nat} {v : Value} {xs : List Value} (h : w.ownsRow B e size v n xs) (hB : B' ≤ B) : w.ownsRow B' e size v n xs := by
  refine ⟨h.1, ?_⟩
  rcases h.2 with h2 | ⟨g, cap, cur, e1, e2, e3⟩
  · exact .inl h2
  · exact .inr ⟨g, cap, cur, e1, by omega, e3⟩
theorem own_at {w : World} {B n size : Nat} {e : TypeId} {v : Value} {xs : List Value} (h : w.ownsRow B e size v n xs) (hn : n ≠ 0) : ∃ g cap, v = .slice (some ⟨g, 0, none⟩) n cap ∧ B ≤ g ∧ g < w.heap.size ∧ n ≤ cap ∧ (∀ j u, xs[j]? = some u → w.cell? ⟨g, j, none⟩ = some u) := by
  rcases h.2 with ⟨_, h0⟩ | ⟨g, cap, cur, rfl, hB, hh, hc, hm, hs, ht⟩
  · exact absurd h0 hn
  · refine ⟨g, cap, rfl, hB, (Array.getElem?_eq_some_iff.1 hh).1, hc, fun j u hj => ?_⟩
    have hj2 : j < n * size := by rw [← h.1]; exact (List.getElem?_eq_some_iff.1 hj).1
    rw [cell_of_row w g j cur e (0, 0) hh, ← hj, ← ht, List.getElem?_take, if_pos hj2]
    simp
theorem own_shape {w : World} {B n size : Nat} {e : TypeId} {v : Value} {xs : List Value} (h : w.ownsRow B e size v n xs) : ∃ a cap, v = .slice a n cap ∧ (n ≠ 0 → ∃ g, a = some ⟨g, 0, none⟩ ∧ B ≤ g ∧ g < w.heap.size ∧ ∀ j u, xs[j]? = some u → w.cell? ⟨g, j, none⟩ = some u) := by
  by_cases hn : n = 0
  · subst hn
    rcases h.2 with ⟨e1, _⟩ | ⟨g, cap, cur, rfl, _⟩
    · exact ⟨none, 0, e1, fun h => absurd rfl h⟩
    · exact ⟨_, cap, rfl, fun h => absurd rfl h⟩
  · obtain ⟨g, cap, rfl, h1, h2, _, h3⟩ := own_at h hn
    exact ⟨_, cap, rfl, fun _ => ⟨g, rfl, h1, h2, h3⟩⟩
/-- append of a row of one's own to another, whatever both hold. -/
theorem wpList_append_rows {P : Program} {w : World} {ops : Array Oper} {rest : List Oper} {o : Oper} {a : Act} {Q : Exit → Act → World → Prop} (hgd : o.guard = none) (s x : Operand) (t : TypeId)
    (ho : o.op = .call { callee := .builtin .append, args := #[s, x], argTypes := #[t, t] })
    (base : Nat) (e : TypeId) (i : TypeInfo) (z : Value) (size bytes : Nat) (ht : P.underlying t = some (.slice e)) (hi : P.info? e = some i) (hz : i.zero = some z)
    (hsize : i.size = size) (hby : i.bytes = bytes) (hzs : z.cells.size = size) (hsz : 0 < size)
    (v : Value) (n : Nat) (xs : List Value) (hs : a.eval s = v) (hown : w.ownsRow base e size v n xs)
    (bx : Nat) (vx : Value) (m : Nat) (news : List Value) (hx : a.eval x = vx) (hox : w.ownsRow bx e size vx m news) (h1 : ∀ u ∈ news, u.oneCell' = true)
    (h63 : n + m ≤ maxLen) (hbytes : (n + m) * bytes ≤ 140737488355328) (hbase : base ≤ w.heap.size)
    (h : ∀ v' w', w'.ownsRow base e size v' (n + m) (xs ++ news) → w.grownBy w' v.ownBlock → wpList P ops Q rest (a.put o.dst v') w') : wpList P ops Q (o :: rest) a w := by
  rcases hox.2 with ⟨rfl, rfl⟩ | ⟨g, cap, cur, rfl, hB, hh, hc, hm, hcs, htk⟩
  · have hn : news = [] := List.eq_nil_of_length_eq_zero (by simpa using hox.1)
    subst hn
    refine wpList_append_own_none hgd s x t ho base e i size ht hi v n xs hs hown hx (h v w ?_ (World.grownBy.refl _ _))
    rw [List.append_nil, Nat.add_zero]; exact hown
  · refine wpList_append_own w hgd s x t ho base e i z size bytes ht hi hz hsize hby hzs hsz v n xs hs hown ⟨g, 0, none⟩ m cap news hx hox.1 (fun j u hj => ?_) h1 h63 hbytes hbase (fun v' w' a1 a2 _ => h v' w' a1 a2)
    have hj2 : j < m * size := by rw [← hox.1]; exact (List.getElem?_eq_some_iff.1 hj).1
    rw [Addr.add_lit, Nat.zero_add, cell_of_row w g j cur e (0, 0) hh, ← hj, ← htk, List.getElem?_take, if_pos hj2]
    simp
theorem ret_int {k : IntKind} {a b : Int} (h : a = b) : Ending.returned (.int k a) = .returned (.int k b) := by rw [h]
theorem ret_bool {a b : Bool} (h : a = b) : Ending.returned (.bool a) = .returned (.bool b) := by rw [h]
theorem size_len (s : ByteArray) : s.data.toList.length = s.size := by simp
theorem toList_ne {s : ByteArray} (h : 0 < s.size) : s.data.toList ≠ [] := by
  intro e
  have h1 := size_len s
  rw [e] at h1
  simp only [List.length_nil] at h1
  omega
theorem toList_nil {s : ByteArray} (h : s.size = 0) : s.data.toList = [] := by
  rw [← List.length_eq_zero_iff, size_len, h]
/-- Of what holds cells nothing but what is named, by its place and its type, is written over; all else stands. -/
structure Wrote (P : Nat → TypeId → Prop) (w w' : World) : Prop where
  os : w'.os = w.os
  tape : w'.tape = w.tape
  output : w'.output = w.output
  size : w.heap.size ≤ w'.heap.size
  block : ∀ k o, w.heap[k]? = some o → (∀ (c : Array Value) (t : TypeId) (f : Nat × Nat), o = Obj.cells c t f → ¬ P k t) → w'.heap[k]? = some o
theorem Wrote.refl (P : Nat → TypeId → Prop) (w : World) : Wrote P w w := ⟨rfl, rfl, rfl, Nat.le_refl _, fun _ _ h _ => h⟩
theorem Wrote.trans {P : Nat → TypeId → Prop} {a b c : World} (h : Wrote P a b) (k : Wrote P b c) : Wrote P a c :=
  ⟨k.os.trans h.os, k.tape.trans h.tape, k.output.trans h.output, Nat.le_trans h.size k.size, fun i o hi hp => k.block i o (h.block i o hi hp) hp⟩
theorem Wrote.of_below {P : Nat → TypeId → Prop} {W W' : World} (h : Below W.heap.size W W') : Wrote P W W' := ⟨h.os, h.tape, h.output, h.size, fun k o hk _ => (h.block k (Array.getElem?_eq_some_iff.1 hk).1).trans hk⟩
theorem Wrote.alloc (P : Nat → TypeId → Prop) (W : World) (o : Obj) : Wrote P W (W.alloc o) := Wrote.of_below ((Below.refl _ W).alloc (Nat.le_refl _) o)
theorem Wrote.of_grown {P : Nat → TypeId → Prop} {W W' : World} {row : Option Nat} (hg : W.grownBy W' row) (hr : ∀ k, row = some k → W.heap.size ≤ k ∨ ∃ (c : Array Value) (t : TypeId) (f : Nat × Nat), W.heap[k]? = some (Obj.cells c t f) ∧ P k t) : Wrote P W W' :=
  ⟨hg.os, hg.tape, hg.output, hg.size, fun k o hk hp => (hg.block k (Array.getElem?_eq_some_iff.1 hk).1 (fun e => by
    rcases hr k e.symm with h | ⟨c, t, f, h, h2⟩
    · have := (Array.getElem?_eq_some_iff.1 hk).1; omega
    · rw [hk] at h
      injection h with h
      exact hp c t f h h2)).trans hk⟩
theorem Wrote.set {P : Nat → TypeId → Prop} {b i : Nat} (W : World) (v : Value) {c : Array Value} {t : TypeId} {f : Nat × Nat} (hh : W.heap[b]? = some (Obj.cells c t f)) (hb : P b t) : Wrote P W (W.setCell ⟨b, i, none⟩ v) :=
  ⟨rfl, rfl, rfl, by rw [size_setCell]; exact Nat.le_refl _, fun k o hk hp => (Below.heap_setCell _ _ _ _ (by show k ≠ b; rintro rfl; rw [hk] at hh; injection hh with hh; exact hp _ _ _ hh hb)).trans hk⟩
theorem Wrote.draw (P : Nat → TypeId → Prop) (W : World) (n : Nat) : Wrote P W (W.drewN n) := ⟨rfl, rfl, rfl, Nat.le_refl _, fun _ _ h _ => h⟩
theorem Wrote.keep {P : Nat → TypeId → Prop} {ok : Nat → Prop} {w w' : World} (h : Wrote P w w') (hk : ∀ k t, ok k → ¬ P k t) : Keep ok w w' := ⟨h.size, fun k ho hl => by
  rw [Array.getElem?_eq_getElem hl]
  exact h.block k _ (Array.getElem?_eq_getElem hl) (fun c t f _ => hk k t ho)⟩
theorem Wrote.below {P : Nat → TypeId → Prop} {w w' : World} {B : Nat} (h : Wrote P w w') (hB : B ≤ w.heap.size) (hp : ∀ k t, P k t → B ≤ k) : Below B w w' :=
  ⟨h.os, h.tape, h.output, h.size, (h.keep (ok := fun k => k < B) (fun k t hk h2 => by have := hp k t h2; omega)).block |> fun g k hk => g k hk (by omega)⟩
theorem Wrote.mono {P P' : Nat → TypeId → Prop} {w w' : World} (h : Wrote P w w') (hp : ∀ k t, P k t → P' k t) : Wrote P' w w' := ⟨h.os, h.tape, h.output, h.size, fun k o hk hn => h.block k o hk (fun c t f e h2 => hn c t f e (hp k t h2))⟩
theorem Wrote.drew {P : Nat → TypeId → Prop} {W W' : World} (h : Wrote P W W') : Wrote P W W'.drew := ⟨h.os, h.tape, h.output, h.size, h.block⟩
theorem Blk.set {w : World} {k : Nat} {c : Array Value} {t : TypeId} (h : Blk w k c t) (i : Nat) (x : Value) : Blk (w.setCell ⟨k, i, none⟩ x) k (c.setIfInBounds i x) t := by
  unfold Blk at h ⊢
  simp only [World.setCell, Array.getElem?_modify, h]
  simp
theorem Blk.other {w : World} {k b i : Nat} {c : Array Value} {t : TypeId} {x : Value} (h : Blk w k c t) (hne : k ≠ b) : Blk (w.setCell ⟨b, i, none⟩ x) k c t := by
  unfold Blk at h ⊢
  rw [Below.heap_setCell _ _ _ _ hne]
  exact h
theorem own_set {w : World} {B b i n size : Nat} {e t : TypeId} {v u : Value} {xs : List Value} {c : Array Value} (h : w.ownsRow B e size v n xs) (hb : Blk w b c t) (ht : t ≠ e) : (w.setCell ⟨b, i, none⟩ u).ownsRow B e size v n xs := by
  refine h.kept (row := some b) ⟨rfl, rfl, rfl, by simp [World.setCell], fun k _ hk => Below.heap_setCell _ _ _ _ (fun e => hk (by simp [e]))⟩ (Or.inr fun e2 => ?_)
  rcases h.2 with ⟨rfl, _⟩ | ⟨g, cap, cur, rfl, hB, hh, _⟩
  · cases e2
  · simp only [Value.ownBlock, Option.some.injEq] at e2
    subst e2
    unfold Blk at hb
    rw [hb] at hh
    injection hh with hh
    injection hh with _ h3 _
    exact ht h3
theorem blk_drew {w : World} {k : Nat} {c : Array Value} {t : TypeId} (h : Blk w k c t) : Blk w.drew k c t := h
/-- append to a row of one's own, as one step of a region that draws. -/
theorem step_append_own {P : Program} {ops : Array Oper} {o : Oper} {a : Act} {w : World} {K : Act → World → Prop} {Q : Exit → Act → World → Prop} {E : Prop}
    (hg : o.guard = none) (s x : Operand) (t : TypeId) (hop : o.op = Op.call { callee := Callee.builtin Builtin.append, args := #[s, x], argTypes := #[t, t] })
    (base : Nat) (e : TypeId) (i : TypeInfo) (z : Value) (size bytes : Nat) (ht : P.underlying t = some (.slice e)) (hi : P.info? e = some i) (hz : i.zero = some z)
    (hsize : i.size = size) (hby : i.bytes = bytes) (hzs : z.cells.size = size) (hsz : 0 < size)
    (v : Value) (n : Nat) (xs : List Value) (hs : a.eval s = v) (hown : w.ownsRow base e size v n xs)
    (ad : Addr) (m c : Nat) (news : List Value) (hx : a.eval x = .slice (some ad) m c) (hl : news.length = m * size) (hnews : ∀ j u, news[j]? = some u → w.cell? (ad.add j) = some u) (h1 : ∀ u ∈ news, u.oneCell' = true)
    (h63 : n + m ≤ maxLen) (hbytes : (n + m) * bytes ≤ 140737488355328) (hbase : base ≤ w.heap.size)
    (h : ∀ v' w', w'.ownsRow base e size v' (n + m) (xs ++ news) → w.grownBy w' v.ownBlock → (v' = .slice none 0 0 ↔ v = .slice none 0 0 ∧ m = 0) → (v'.ownBlock = v.ownBlock ∨ v'.ownBlock = some w.heap.size) → K (a.put o.dst v') w') :
    if Region.wanted o (yielded ops a.tmps) = true then Oper.wp P o a w K Q else E := by
  have hw : Region.wanted o (yielded ops a.tmps) = true := by simp [Region.wanted, hg]
  rw [if_pos hw]
  obtain ⟨v', w', hr, h2, h3, h4, h5⟩ := run_append_own_at (P := P) w base t o.type e i z size bytes ht hi hz hsize hby hzs hsz v n xs hown ad m c news hl hnews h1 h63 hbytes hbase
  unfold Oper.wp execOp
  simp only [hop, resolve, invoke, builtin, Sem.run_bind, Sem.run_pure, Result.andThen_ok, List.map_toArray, List.map_cons, List.map_nil, hs, hx, hr]
  exact h _ _ h2 h3 h4 h5
/-- A call of a function by its number, as one step of a region that draws. -/
theorem step_call {P : Program} {ops : Array Oper} {o : Oper} {a : Act} {w : World} {K : Act → World → Prop} {Q : Exit → Act → World → Prop} {E : Prop} {S : Value → World → Prop}
    (hg : o.guard = none) (f : FuncId) (A : Array Operand) (tys : Array TypeId) (hop : o.op = Op.call { callee := Callee.value (.func f), args := A, argTypes := tys }) (vals : Array Value) (hA : A.map a.eval = vals)
    (he : ∀ w, (callFunc f vals).run P w = .ok (.enter f vals) w) (hc : Calls P f vals w fun e w' => ∃ v, e = .returned v ∧ S v w') (hK : ∀ v w', S v w' → K (a.put o.dst v) w') :
    if Region.wanted o (yielded ops a.tmps) = true then Oper.wp P o a w K Q else E := by
  have hw : Region.wanted o (yielded ops a.tmps) = true := by simp [Region.wanted, hg]
  rw [if_pos hw]
  have h1 : (execOp a.eval o).run P w = .ok (.enter f vals) w := by
    unfold execOp
    simp only [hop, resolve, invoke, Sem.run_bind, Sem.run_pure, Result.andThen_ok, hA]
    simp [go_sem, Act.eval, hA, he]
  unfold Oper.wp
  rw [h1]
  show Calls P f vals w _
  refine hc.mono ?_
  rintro e w' ⟨v, rfl, hs⟩
  exact hK v w' hs
theorem own_typed {w : World} {B : Nat} {e : TypeId} {size n : Nat} {v : Value} {xs : List Value} (h : w.ownsRow B e size v n xs) {g : Nat} (hg : v.ownBlock = some g) : B ≤ g ∧ ∃ cur, w.heap[g]? = some (Obj.cells cur e (0, 0)) := by
  rcases h.2 with ⟨rfl, _⟩ | ⟨g', cap, cur, rfl, hB, hh, _⟩
  · cases hg
  · simp only [Value.ownBlock, Option.some.injEq] at hg
    subst hg
    exact ⟨hB, cur, hh⟩
theorem cells_new (w : World) (l : List Value) (t : TypeId) : ∀ j u, l[j]? = some u → (w.alloc (.cells l.toArray t)).cell? ((⟨w.heap.size, 0, none⟩ : Addr).add j) = some u := by
  intro j u hj
  have h := Blk.cell (Blk.new w l.toArray t) j
  rw [show (⟨w.heap.size, 0, none⟩ : Addr).add j = ⟨w.heap.size, j, none⟩ from by unfold Addr.add; split <;> simp_all, h, ← hj]
  simp
theorem NB.alloc {w1 W : World} (h : Below w1.heap.size w1 W) (o : Obj) : Below w1.heap.size w1 (W.alloc o) := h.alloc h.size o
theorem NB.set {w1 W : World} {k i : Nat} {u : Value} (h : Below w1.heap.size w1 W) (hk : w1.heap.size ≤ k) : Below w1.heap.size w1 (W.setCell ⟨k, i, none⟩ u) := h.setCell hk u
theorem NB.below {w1 W W' : World} (h : Below w1.heap.size w1 W) (hb : Below W.heap.size W W') : Below w1.heap.size w1 W' := below_next h hb
theorem NB.new1 {W : World} {o : Obj} {c : Array Value} {t : TypeId} : Blk ((W.alloc o).alloc (.cells c t)) (W.heap.size + 1) c t := by have := Blk.new (W.alloc o) c t; simp only [World.size_alloc] at this; exact this
/-- A row of bytes of one's own stays where others are written. -/
theorem own_wrote {P : Nat → TypeId → Prop} {B n size : Nat} {e : TypeId} {v : Value} {xs : List Value} {w w' : World} (h : w.ownsRow B e size v n xs) (hw : Wrote P w w') (hp : ∀ g, ¬ P g e) : w'.ownsRow B e size v n xs := by
  refine ⟨h.1, ?_⟩
  rcases h.2 with h2 | ⟨g, cap, cur, e1, e2, e3, e4⟩
  · exact .inl h2
  · exact .inr ⟨g, cap, cur, e1, e2, hw.block g _ e3 (by rintro c t f h; injection h with _ h2 _; subst h2; exact hp g), e4⟩
/-- Two lists, part by part. -/
inductive All2 {α β : Type} (R : α → β → Prop) : List α → List β → Prop where
  | nil : All2 R [] []
  | cons {a : α} {b : β} {l : List α} {m : List β} (h : R a b) (t : All2 R l m) : All2 R (a :: l) (b :: m)
end Go.Proofs.Ytalicfpcmcbdbaa

set_option linter.unusedVariables false
set_option linter.unusedSimpArgs false
set_option linter.unnecessarySimpa false
set_option linter.deprecated false
namespace Go.Proofs.Ytalicfpcmcbdbaa
open Go.RowKit

instance : Inhabited ByteArray := ⟨⟨#[]⟩⟩
/-- A set of bytes: four words. -/
structure St where
  w0 : Nat
  w1 : Nat
  w2 : Nat
  w3 : Nat
deriving DecidableEq, Inhabited
def St.ok (s : St) : Prop := s.w0 < 18446744073709551616 ∧ s.w1 < 18446744073709551616 ∧ s.w2 < 18446744073709551616 ∧ s.w3 < 18446744073709551616
def zS : St := ⟨0, 0, 0, 0⟩
theorem zS_ok : zS.ok := ⟨by decide, by decide, by decide, by decide⟩
def emptyB : ByteArray := ⟨#[]⟩
/-- A symbol. -/
structure Sy where
  kind : Int
  text : ByteArray
  set : St
  name : ByteArray
  sep : ByteArray
deriving DecidableEq, Inhabited
/-- A production. -/
structure Pd where
  lex : Bool
  sort : ByteArray
  cons : ByteArray
  bracket : Bool
  syms : List Sy
deriving DecidableEq, Inhabited
structure Gp where
  assoc : Int
  cons : List ByteArray
deriving DecidableEq, Inhabited
structure Fl where
  sort : ByteArray
  set : St
deriving DecidableEq, Inhabited
structure Rj where
  sort : ByteArray
  by_ : ByteArray
deriving DecidableEq, Inhabited
/-- An item of a template. -/
inductive It where
  | mk (kind : Int) (text : ByteArray) (n : Int) (kids : List It)
def It.kind : It → Int | .mk k _ _ _ => k
def It.text : It → ByteArray | .mk _ t _ _ => t
def It.num : It → Int | .mk _ _ n _ => n
def It.kids : It → List It | .mk _ _ _ l => l
structure Bx where
  cons : ByteArray
  items : List It
/-- A definition. -/
structure Df where
  start : ByteArray
  layout : ByteArray
  prods : List Pd
  chains : List (List Gp)
  follows : List Fl
  rejects : List Rj
  boxes : List Bx

def i64 (n : Int) : Prop := -9223372036854775808 ≤ n ∧ n ≤ 9223372036854775807
def short (s : ByteArray) : Prop := s.size ≤ 140737488351232

/-- Cells that lie one behind the other. -/
def CellsAt (cs : List Value) (b o : Nat) (W : World) : Prop := ∀ j u, cs[j]? = some u → W.cell? ⟨b, o + j, none⟩ = some u
/-- What stays where it lies while new blocks are made. -/
def Stable {α : Type} (At : α → Nat → Nat → World → Prop) : Prop := ∀ (x : α) (b o : Nat) (W W' : World), Below W.heap.size W W' → b < W.heap.size → At x b o W → At x b o W'
theorem CellsAt.below {cs : List Value} {b o : Nat} {W W' : World} (h : CellsAt cs b o W) (hb : Below W.heap.size W W') (hlt : b < W.heap.size) : CellsAt cs b o W' :=
  fun j u hj => ((hb.cell (p := ⟨b, o + j, none⟩) hlt).trans (h j u hj))
/-- A slice that reads as a list. -/
def Row {α : Type} (At : α → Nat → Nat → World → Prop) (sz : Nat) (l : List α) (a : Option Addr) (W : World) : Prop :=
  l.length ≤ 140737488351232 ∧ (l ≠ [] → ∃ b o, a = some ⟨b, o, none⟩ ∧ b < W.heap.size ∧ ∀ i (h : i < l.length), At l[i] b (o + i * sz) W)
theorem Row.below {α : Type} {At : α → Nat → Nat → World → Prop} (hs : Stable At) {sz : Nat} {l : List α} {a : Option Addr} {W W' : World} (h : Row At sz l a W) (hb : Below W.heap.size W W') : Row At sz l a W' := by
  refine ⟨h.1, fun hn => ?_⟩
  obtain ⟨b, o, e, hlt, hc⟩ := h.2 hn
  exact ⟨b, o, e, Nat.lt_of_lt_of_le hlt hb.size, fun i hi => hs _ _ _ _ _ hb hlt (hc i hi)⟩
theorem Row.nil {α : Type} {At : α → Nat → Nat → World → Prop} {sz : Nat} {a : Option Addr} {W : World} : Row At sz ([] : List α) a W := ⟨by simp, fun h => absurd rfl h⟩
theorem Row.get {α : Type} {At : α → Nat → Nat → World → Prop} {sz : Nat} {l : List α} {a : Option Addr} {W : World} (h : Row At sz l a W) {k : Nat} (hk : k < l.length) : ∃ b o, a = some ⟨b, o, none⟩ ∧ b < W.heap.size ∧ ∀ i (h : i < l.length), At l[i] b (o + i * sz) W :=
  h.2 (by rintro rfl; simp at hk)

def StrAt (s : ByteArray) (b o : Nat) (W : World) : Prop := short s ∧ W.cell? ⟨b, o, none⟩ = some (.string s)
theorem StrAt.stable : Stable StrAt := fun _ _ _ _ _ hb hlt h => ⟨h.1, (hb.cell (p := ⟨_, _, none⟩) hlt).trans h.2⟩
def IntAt (n : Int) (b o : Nat) (W : World) : Prop := i64 n ∧ W.cell? ⟨b, o, none⟩ = some (.int .i64 n)
theorem IntAt.stable : Stable IntAt := fun _ _ _ _ _ hb hlt h => ⟨h.1, (hb.cell (p := ⟨_, _, none⟩) hlt).trans h.2⟩

def syC (x : Sy) : List Value := [.int .i64 x.kind, .string x.text, .int .u64 (x.set.w0 : Int), .int .u64 (x.set.w1 : Int), .int .u64 (x.set.w2 : Int), .int .u64 (x.set.w3 : Int), .string x.name, .string x.sep]
structure Sy.ok (x : Sy) : Prop where
  k : i64 x.kind
  t : short x.text
  s : x.set.ok
  n : short x.name
  p : short x.sep
def SyAt (x : Sy) (b o : Nat) (W : World) : Prop := x.ok ∧ CellsAt (syC x) b o W
theorem SyAt.stable : Stable SyAt := fun _ _ _ _ _ hb hlt h => ⟨h.1, h.2.below hb hlt⟩
theorem SyAt.cells {x : Sy} {b o : Nat} {W : World} (h : SyAt x b o W) : W.cell? ⟨b, o, none⟩ = some (.int .i64 x.kind) ∧ W.cell? ⟨b, o + 1, none⟩ = some (.string x.text) ∧ W.cell? ⟨b, o + 2, none⟩ = some (.int .u64 (x.set.w0 : Int)) ∧ W.cell? ⟨b, o + 3, none⟩ = some (.int .u64 (x.set.w1 : Int)) ∧ W.cell? ⟨b, o + 4, none⟩ = some (.int .u64 (x.set.w2 : Int)) ∧ W.cell? ⟨b, o + 5, none⟩ = some (.int .u64 (x.set.w3 : Int)) ∧ W.cell? ⟨b, o + 6, none⟩ = some (.string x.name) ∧ W.cell? ⟨b, o + 7, none⟩ = some (.string x.sep) :=
  ⟨h.2 0 _ rfl, h.2 1 _ rfl, h.2 2 _ rfl, h.2 3 _ rfl, h.2 4 _ rfl, h.2 5 _ rfl, h.2 6 _ rfl, h.2 7 _ rfl⟩

/-- A production, but for its symbols, that lie elsewhere. -/
structure Pd.ok (p : Pd) : Prop where
  s : short p.sort
  c : short p.cons
def PdAt (p : Pd) (b o : Nat) (W : World) : Prop := p.ok ∧ ∃ a c, CellsAt [.bool p.lex, .string p.sort, .string p.cons, .bool p.bracket, .slice a p.syms.length c] b o W ∧ Row SyAt 8 p.syms a W ∧ p.syms.length ≤ c
theorem PdAt.stable : Stable PdAt := fun _ _ _ _ _ hb hlt h => ⟨h.1, h.2.elim fun a h => h.elim fun c h => ⟨a, c, h.1.below hb hlt, h.2.1.below SyAt.stable hb, h.2.2⟩⟩
theorem PdAt.cells {p : Pd} {b o : Nat} {W : World} (h : PdAt p b o W) : ∃ a c, (W.cell? ⟨b, o, none⟩ = some (.bool p.lex) ∧ W.cell? ⟨b, o + 1, none⟩ = some (.string p.sort) ∧ W.cell? ⟨b, o + 2, none⟩ = some (.string p.cons) ∧ W.cell? ⟨b, o + 3, none⟩ = some (.bool p.bracket) ∧ W.cell? ⟨b, o + 4, none⟩ = some (.slice a p.syms.length c)) ∧ Row SyAt 8 p.syms a W := by
  obtain ⟨_, a, c, h, hr, _⟩ := h
  exact ⟨a, c, ⟨h 0 _ rfl, h 1 _ rfl, h 2 _ rfl, h 3 _ rfl, h 4 _ rfl⟩, hr⟩
/-- The slice of its symbols, with its room. -/
theorem PdAt.cap {p : Pd} {b o : Nat} {W : World} (h : PdAt p b o W) : ∃ a c, W.cell? ⟨b, o + 4, none⟩ = some (.slice a p.syms.length c) ∧ Row SyAt 8 p.syms a W ∧ p.syms.length ≤ c := by
  obtain ⟨_, a, c, h, hr, hc⟩ := h
  exact ⟨a, c, h 4 _ rfl, hr, hc⟩

def GpAt (g : Gp) (b o : Nat) (W : World) : Prop := i64 g.assoc ∧ ∃ a c, CellsAt [.int .i64 g.assoc, .slice a g.cons.length c] b o W ∧ Row StrAt 1 g.cons a W
theorem GpAt.stable : Stable GpAt := fun _ _ _ _ _ hb hlt h => ⟨h.1, h.2.elim fun a h => h.elim fun c h => ⟨a, c, h.1.below hb hlt, h.2.below StrAt.stable hb⟩⟩
theorem GpAt.cells {p : Gp} {b o : Nat} {W : World} (h : GpAt p b o W) : ∃ a c, (W.cell? ⟨b, o, none⟩ = some (.int .i64 p.assoc) ∧ W.cell? ⟨b, o + 1, none⟩ = some (.slice a p.cons.length c)) ∧ Row StrAt 1 p.cons a W := by
  obtain ⟨_, a, c, h, hr⟩ := h
  exact ⟨a, c, ⟨h 0 _ rfl, h 1 _ rfl⟩, hr⟩
/-- A chain is a slice of groups. -/
def ChAt (l : List Gp) (b o : Nat) (W : World) : Prop := ∃ a c, W.cell? ⟨b, o, none⟩ = some (.slice a l.length c) ∧ Row GpAt 2 l a W
theorem ChAt.stable : Stable ChAt := fun _ _ _ _ _ hb hlt h => h.elim fun a h => h.elim fun c h => ⟨a, c, (hb.cell (p := ⟨_, _, none⟩) hlt).trans h.1, h.2.below GpAt.stable hb⟩

structure Fl.ok (x : Fl) : Prop where
  n : short x.sort
  s : x.set.ok
def flC (x : Fl) : List Value := [.string x.sort, .int .u64 (x.set.w0 : Int), .int .u64 (x.set.w1 : Int), .int .u64 (x.set.w2 : Int), .int .u64 (x.set.w3 : Int)]
def FlAt (x : Fl) (b o : Nat) (W : World) : Prop := x.ok ∧ CellsAt (flC x) b o W
theorem FlAt.stable : Stable FlAt := fun _ _ _ _ _ hb hlt h => ⟨h.1, h.2.below hb hlt⟩
theorem FlAt.cells {x : Fl} {b o : Nat} {W : World} (h : FlAt x b o W) : W.cell? ⟨b, o, none⟩ = some (.string x.sort) ∧ W.cell? ⟨b, o + 1, none⟩ = some (.int .u64 (x.set.w0 : Int)) ∧ W.cell? ⟨b, o + 2, none⟩ = some (.int .u64 (x.set.w1 : Int)) ∧ W.cell? ⟨b, o + 3, none⟩ = some (.int .u64 (x.set.w2 : Int)) ∧ W.cell? ⟨b, o + 4, none⟩ = some (.int .u64 (x.set.w3 : Int)) :=
  ⟨h.2 0 _ rfl, h.2 1 _ rfl, h.2 2 _ rfl, h.2 3 _ rfl, h.2 4 _ rfl⟩
structure Rj.ok (x : Rj) : Prop where
  n : short x.sort
  b : short x.by_
def RjAt (x : Rj) (b o : Nat) (W : World) : Prop := x.ok ∧ CellsAt [.string x.sort, .string x.by_] b o W
theorem RjAt.stable : Stable RjAt := fun _ _ _ _ _ hb hlt h => ⟨h.1, h.2.below hb hlt⟩
theorem RjAt.cells {x : Rj} {b o : Nat} {W : World} (h : RjAt x b o W) : W.cell? ⟨b, o, none⟩ = some (.string x.sort) ∧ W.cell? ⟨b, o + 1, none⟩ = some (.string x.by_) := ⟨h.2 0 _ rfl, h.2 1 _ rfl⟩

mutual
/-- An item of a template in memory. -/
def ItAt : It → Nat → Nat → World → Prop
  | .mk k t n l, b, o, W => i64 k ∧ short t ∧ i64 n ∧ ∃ a c, CellsAt [.int .i64 k, .string t, .int .i64 n, .slice a l.length c] b o W ∧ l.length ≤ 140737488351232 ∧ (l ≠ [] → ∃ b' o', a = some ⟨b', o', none⟩ ∧ b' < W.heap.size ∧ ItsAt l b' o' W)
def ItsAt : List It → Nat → Nat → World → Prop
  | [], _, _, _ => True
  | x :: xs, b, o, W => ItAt x b o W ∧ ItsAt xs b (o + 4) W
end
theorem itsAt_iff : ∀ (l : List It) (b o : Nat) (W : World), ItsAt l b o W ↔ ∀ i (h : i < l.length), ItAt l[i] b (o + i * 4) W
  | [], b, o, W => by rw [ItsAt]; simp
  | x :: xs, b, o, W => by
    rw [ItsAt, itsAt_iff xs b (o + 4) W]
    constructor
    · rintro ⟨h0, h1⟩ i hi
      cases i with
      | zero => simpa using h0
      | succ i =>
        have := h1 i (by simpa using hi)
        rw [show o + (i + 1) * 4 = o + 4 + i * 4 by omega]
        simpa using this
    · intro h
      refine ⟨by have h0 := h 0 (by simp); rw [Nat.zero_mul, Nat.add_zero] at h0; exact h0, fun i hi => ?_⟩
      have := h (i + 1) (by simpa using hi)
      rw [show o + (i + 1) * 4 = o + 4 + i * 4 by omega] at this
      simpa using this
theorem itAt_iff (x : It) (b o : Nat) (W : World) : ItAt x b o W ↔ i64 x.kind ∧ short x.text ∧ i64 x.num ∧ ∃ a c, CellsAt [.int .i64 x.kind, .string x.text, .int .i64 x.num, .slice a x.kids.length c] b o W ∧ Row ItAt 4 x.kids a W := by
  obtain ⟨k, t, n, l⟩ := x
  rw [ItAt]
  simp only [It.kind, It.text, It.num, It.kids, Row]
  constructor
  · rintro ⟨h1, h2, h3, a, c, h4, h5, h6⟩
    refine ⟨h1, h2, h3, a, c, h4, h5, fun hn => ?_⟩
    obtain ⟨b', o', e, hb, h⟩ := h6 hn
    exact ⟨b', o', e, hb, (itsAt_iff l b' o' W).1 h⟩
  · rintro ⟨h1, h2, h3, a, c, h4, h5, h6⟩
    refine ⟨h1, h2, h3, a, c, h4, h5, fun hn => ?_⟩
    obtain ⟨b', o', e, hb, h⟩ := h6 hn
    exact ⟨b', o', e, hb, (itsAt_iff l b' o' W).2 h⟩
mutual
theorem ItAt.below : ∀ (x : It) {b o : Nat} {W W' : World}, Below W.heap.size W W' → b < W.heap.size → ItAt x b o W → ItAt x b o W'
  | .mk k t n l, b, o, W, W', hb, hlt, h => by
    rw [ItAt] at h ⊢
    obtain ⟨h1, h2, h3, a, c, h4, h5, h6⟩ := h
    refine ⟨h1, h2, h3, a, c, h4.below hb hlt, h5, fun hn => ?_⟩
    obtain ⟨b', o', e, hb', h⟩ := h6 hn
    exact ⟨b', o', e, Nat.lt_of_lt_of_le hb' hb.size, ItsAt.below l hb hb' h⟩
theorem ItsAt.below : ∀ (l : List It) {b o : Nat} {W W' : World}, Below W.heap.size W W' → b < W.heap.size → ItsAt l b o W → ItsAt l b o W'
  | [], _, _, _, _, _, _, _ => by rw [ItsAt]; trivial
  | x :: xs, b, o, W, W', hb, hlt, h => by
    rw [ItsAt] at h ⊢
    exact ⟨ItAt.below x hb hlt h.1, ItsAt.below xs hb hlt h.2⟩
end
theorem ItAt.stable : Stable ItAt := fun x _ _ _ _ hb hlt h => ItAt.below x hb hlt h
theorem ItAt.cells {x : It} {b o : Nat} {W : World} (h : ItAt x b o W) : (i64 x.kind ∧ short x.text ∧ i64 x.num) ∧ ∃ a c, (W.cell? ⟨b, o, none⟩ = some (.int .i64 x.kind) ∧ W.cell? ⟨b, o + 1, none⟩ = some (.string x.text) ∧ W.cell? ⟨b, o + 2, none⟩ = some (.int .i64 x.num) ∧ W.cell? ⟨b, o + 3, none⟩ = some (.slice a x.kids.length c)) ∧ Row ItAt 4 x.kids a W := by
  obtain ⟨h1, h2, h3, a, c, h, hr⟩ := (itAt_iff x b o W).1 h
  exact ⟨⟨h1, h2, h3⟩, a, c, ⟨h 0 _ rfl, h 1 _ rfl, h 2 _ rfl, h 3 _ rfl⟩, hr⟩
def BxAt (x : Bx) (b o : Nat) (W : World) : Prop := short x.cons ∧ ∃ a c, CellsAt [.string x.cons, .slice a x.items.length c] b o W ∧ Row ItAt 4 x.items a W
theorem BxAt.stable : Stable BxAt := fun _ _ _ _ _ hb hlt h => ⟨h.1, h.2.elim fun a h => h.elim fun c h => ⟨a, c, h.1.below hb hlt, h.2.below ItAt.stable hb⟩⟩
theorem BxAt.cells {x : Bx} {b o : Nat} {W : World} (h : BxAt x b o W) : short x.cons ∧ ∃ a c, (W.cell? ⟨b, o, none⟩ = some (.string x.cons) ∧ W.cell? ⟨b, o + 1, none⟩ = some (.slice a x.items.length c)) ∧ Row ItAt 4 x.items a W := by
  obtain ⟨h1, a, c, h, hr⟩ := h
  exact ⟨h1, a, c, ⟨h 0 _ rfl, h 1 _ rfl⟩, hr⟩

/-- Where a definition's five rows lie. -/
structure Rw where
  a2 : Option Addr
  c2 : Nat
  a3 : Option Addr
  c3 : Nat
  a4 : Option Addr
  c4 : Nat
  a5 : Option Addr
  c5 : Nat
  a6 : Option Addr
  c6 : Nat
/-- A definition's cells. -/
def dfC (d : Df) (r : Rw) : List Value := [.string d.start, .string d.layout, .slice r.a2 d.prods.length r.c2, .slice r.a3 d.chains.length r.c3, .slice r.a4 d.follows.length r.c4, .slice r.a5 d.rejects.length r.c5, .slice r.a6 d.boxes.length r.c6]
/-- What a definition's rows hold. -/
structure RD (d : Df) (r : Rw) (W : World) : Prop where
  s : short d.start
  l : short d.layout
  p : Row PdAt 5 d.prods r.a2 W
  c : Row ChAt 1 d.chains r.a3 W
  f : Row FlAt 5 d.follows r.a4 W
  j : Row RjAt 2 d.rejects r.a5 W
  x : Row BxAt 2 d.boxes r.a6 W
  q : d.rejects.length ≤ r.c5
theorem RD.below {d : Df} {r : Rw} {W W' : World} (h : RD d r W) (hb : Below W.heap.size W W') : RD d r W' :=
  ⟨h.s, h.l, h.p.below PdAt.stable hb, h.c.below ChAt.stable hb, h.f.below FlAt.stable hb, h.j.below RjAt.stable hb, h.x.below BxAt.stable hb, h.q⟩
end Go.Proofs.Ytalicfpcmcbdbaa
