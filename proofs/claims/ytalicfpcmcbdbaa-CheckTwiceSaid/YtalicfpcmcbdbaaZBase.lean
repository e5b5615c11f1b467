/- What the walks lean on: blocks, rows of one's own, steps. -/
import Derived.Test.YtalicfpcmcbdbaaRows
import Derived.WalkKit
import Derived.WalkSpells
import Derived.WalkLawsBesides
import Derived.Laws.AppendOwnNone
import Derived.Laws.OwnMore
import Derived.Laws.StructEq
import Derived.Lib.Hide
import Derived.Laws.IdiomStrings
import Derived.Deep.LoopGhost
import Derived.Deep.CutBlock
import Derived.Deep.DeepCutAuto
import Derived.Deep.RegionHeld3
import Derived.Deep.RegionLaw
import Derived.BigQuiet
import Derived.BigRegion
import Derived.StillTailTactics
import Derived.Maps.AppendAt
import Derived.Maps.OwnOps
import Derived.Maps.OwnSet
import Derived.DeepKeys
set_option linter.unusedVariables false
set_option linter.unusedSimpArgs false
set_option linter.unnecessarySimpa false
set_option linter.deprecated false
namespace Go.Proofs.Ytalicfpcmcbdbaa
open Go.RowKit

/-- A fact kept from the walk. -/
theorem hide {p : Prop} (h : p) : Hid p := h
theorem below_next {w wr w' : World} (h : Below w.heap.size w wr) (k : Below wr.heap.size wr w') : Below w.heap.size w w' := h.trans (k.mono h.size)
/-- Old cells and old marks, by number. -/
theorem bcell {W w1 : World} (hb : Below W.heap.size W w1) : (∀ b o, b < W.heap.size → w1.cell? ⟨b, o, none⟩ = W.cell? ⟨b, o, none⟩) ∧ (∀ b o, b < W.heap.size → w1.frozen? ⟨b, o, none⟩ = W.frozen? ⟨b, o, none⟩) :=
  ⟨fun b o h => hb.cell (p := ⟨b, o, none⟩) h, fun b o h => hb.frozen (p := ⟨b, o, none⟩) h⟩
/-- The blocks that are so stand as they stood. -/
structure Keep (ok : Nat → Prop) (w w' : World) : Prop where
  size : w.heap.size ≤ w'.heap.size
  block : ∀ k, ok k → k < w.heap.size → w'.heap[k]? = w.heap[k]?
theorem Keep.cell {ok : Nat → Prop} {w w' : World} (h : Keep ok w w') {b : Nat} (ho : ok b) (hb : b < w.heap.size) (o : Nat) : w'.cell? ⟨b, o, none⟩ = w.cell? ⟨b, o, none⟩ :=
  World.cell?_of_block (w := w) (h.block b ho hb)
theorem keep_below {ok : Nat → Prop} {w w' : World} (h : Below w.heap.size w w') : Keep ok w w' := ⟨h.size, fun k _ hk => h.block k hk⟩
theorem Keep.refl (ok : Nat → Prop) (w : World) : Keep ok w w := ⟨Nat.le_refl _, fun _ _ _ => rfl⟩
theorem Keep.trans {ok : Nat → Prop} {a b c : World} (h : Keep ok a b) (k : Keep ok b c) : Keep ok a c :=
  ⟨Nat.le_trans h.size k.size, fun i ho hi => (k.block i ho (Nat.lt_of_lt_of_le hi h.size)).trans (h.block i ho hi)⟩
theorem Keep.setS {ok : Nat → Prop} {a w : World} (h : Keep ok a w) {b i : Nat} {v : Value} (hb : ¬ ok b) : Keep ok a (w.setCell ⟨b, i, none⟩ v) :=
  h.trans ⟨by simp [World.setCell], fun k hk _ => Below.heap_setCell _ _ _ _ (by rintro rfl; exact hb hk)⟩
theorem Keep.allocS {ok : Nat → Prop} {a w : World} (h : Keep ok a w) {o : Obj} : Keep ok a (w.alloc o) :=
  h.trans ⟨by simp, fun k _ hk => Below.heap_alloc _ _ _ hk⟩
theorem Keep.drewS {ok : Nat → Prop} {a w : World} (h : Keep ok a w) : Keep ok a w.drew := ⟨h.size, h.block⟩
theorem Keep.drewNS {ok : Nat → Prop} {a w : World} (h : Keep ok a w) {n : Nat} : Keep ok a (w.drewN n) := ⟨h.size, h.block⟩
theorem size_setCell (w : World) (p : Addr) (v : Value) : (w.setCell p v).heap.size = w.heap.size := by simp [World.setCell]
/-- A whole block. -/
def Blk (w : World) (k : Nat) (c : Array Value) (t : TypeId) : Prop := w.heap[k]? = some (.cells c t (0, 0))
theorem Blk.cell {w : World} {k : Nat} {c : Array Value} {t : TypeId} (h : Blk w k c t) (i : Nat) : w.cell? ⟨k, i, none⟩ = c[i]? := by
  unfold Blk at h
  simp [World.cell?, h]
theorem Blk.free {w : World} {k : Nat} {c : Array Value} {t : TypeId} (h : Blk w k c t) (i : Nat) : w.frozen? ⟨k, i, none⟩ = false := by
  unfold Blk at h
  simp [World.frozen?, h]
theorem Blk.lt {w : World} {k : Nat} {c : Array Value} {t : TypeId} (h : Blk w k c t) : k < w.heap.size := (Array.getElem?_eq_some_iff.1 h).1
theorem Blk.new (w : World) (c : Array Value) (t : TypeId) : Blk (w.alloc (.cells c t)) w.heap.size c t := by
  show (w.heap.push _)[w.heap.size]? = _
  simp
theorem Blk.alloc {w : World} {k : Nat} {c : Array Value} {t : TypeId} (h : Blk w k c t) (o : Obj) : Blk (w.alloc o) k c t :=
  (Below.heap_alloc w o k h.lt).trans h
theorem Blk.keep {ok : Nat → Prop} {w w' : World} {k : Nat} {c : Array Value} {t : TypeId} (h : Blk w k c t) (hk : Keep ok w w') (ho : ok k) : Blk w' k c t := (hk.block k ho h.lt).trans h
theorem Blk.below {w w' : World} {k : Nat} {c : Array Value} {t : TypeId} (h : Blk w k c t) (hb : Below w.heap.size w w') : Blk w' k c t := (hb.block k h.lt).trans h
theorem Blk.ne {w : World} {k k' : Nat} {c c' : Array Value} {t t' : TypeId} (h : Blk w k c t) (h' : Blk w k' c' t') (ht : t ≠ t') : k ≠ k' := by
  rintro rfl
  unfold Blk at h h'
  rw [h] at h'
  injection h' with h'
  injection h' with _ h'
  exact ht h'
theorem Blk.own_ne {w : World} {k : Nat} {c : Array Value} {t : TypeId} (h : Blk w k c t) {B : Nat} {e : TypeId} {size n : Nat} {v : Value} {xs : List Value} (ho : w.ownsRow B e size v n xs) (ht : t ≠ e) : some k ≠ v.ownBlock := by
  rcases ho.2 with ⟨rfl, _⟩ | ⟨g, cap, cur, rfl, _, hg, _⟩
  · simp [Value.ownBlock]
  · intro e1
    simp only [Value.ownBlock, Option.some.injEq] at e1
    exact Blk.ne h (k' := g) hg ht e1
theorem Blk.grown {w w' : World} {k : Nat} {c : Array Value} {t : TypeId} (h : Blk w k c t) {row : Option Nat} (hg : w.grownBy w' row) (hne : some k ≠ row) : Blk w' k c t := (hg.block k h.lt hne).trans h
theorem add_mk (b o n : Nat) : (⟨b, o, none⟩ : Addr).add n = ⟨b, o + n, none⟩ := by
  unfold Addr.add
  split
  · rename_i h; subst h; rfl
  · rfl
theorem own_below {w w' : World} {B : Nat} {e : TypeId} {size n : Nat} {v : Value} {xs : List Value} (h : w.ownsRow B e size v n xs) (hb : Below w.heap.size w w') : w'.ownsRow B e size v n xs := by
  refine ⟨h.1, ?_⟩
  rcases h.2 with h2 | ⟨g, cap, cur, e1, e2, e3, e4⟩
  · exact .inl h2
  · exact .inr ⟨g, cap, cur, e1, e2, (hb.block g (Array.getElem?_eq_some_iff.1 e3).1).trans e3, e4⟩
theorem own_base {w : World} {B B' : Nat} {e : TypeId} {size n : Nat} {v : Value} {xs : List Value} (h : w.ownsRow B e size v n xs) (hB : B' ≤ B) : w.ownsRow B' e size v n xs := by
  refine ⟨h.1, ?_⟩
  rcases h.2 with h2 | ⟨g, cap, cur, e1, e2, e3⟩
  · exact .inl h2
  · exact .inr ⟨g, cap, cur, e1, by omega, e3⟩
theorem own_at {w : World} {B n size : Nat} {e : TypeId} {v : Value} {xs : List Value} (h : w.ownsRow B e size v n xs) (hn : n ≠ 0) : ∃ g cap, v = .slice (some ⟨g, 0, none⟩) n cap ∧ B ≤ g ∧ g < w.heap.size ∧ n ≤ cap ∧ (∀ j u, xs[j]? = some u → w.cell? ⟨g, j, none⟩ = some u) := by
  rcases h.2 with ⟨_, h0⟩ | ⟨g, cap, cur, rfl, hB, hh, hc, hm, hs, ht⟩
  · exact absurd h0 hn
  · refine ⟨g, cap, rfl, hB, (Array.getElem?_eq_some_iff.1 hh).1, hc, fun j u hj => ?_⟩
    have hj2 : j < n * size := by rw [← h.1]; exact (List.getElem?_eq_some_iff.1 hj).1
    rw [cell_of_row w g j cur e (0, 0) hh, ← hj, ← ht, List.getElem?_take, if_pos hj2]
    simp
theorem own_shape {w : World} {B n size : Nat} {e : TypeId} {v : Value} {xs : List Value} (h : w.ownsRow B e size v n xs) : ∃ a cap, v = .slice a n cap ∧ (n ≠ 0 → ∃ g, a = some ⟨g, 0, none⟩ ∧ B ≤ g ∧ g < w.heap.size ∧ ∀ j u, xs[j]? = some u → w.cell? ⟨g, j, none⟩ = some u) := by
  by_cases hn : n = 0
  · subst hn
    rcases h.2 with ⟨e1, _⟩ | ⟨g, cap, cur, rfl, _⟩
    · exact ⟨none, 0, e1, fun h => absurd rfl h⟩
    · exact ⟨_, cap, rfl, fun h => absurd rfl h⟩
  · obtain ⟨g, cap, rfl, h1, h2, _, h3⟩ := own_at h hn
    exact ⟨_, cap, rfl, fun _ => ⟨g, rfl, h1, h2, h3⟩⟩
/-- append of a row of one's own to another, whatever both hold. -/
theorem wpList_append_rows {P : Program} {w : World} {ops : Array Oper} {rest : List Oper} {o : Oper} {a : Act} {Q : Exit → Act → World → Prop} (hgd : o.guard = none) (s x : Operand) (t : TypeId)
    (ho : o.op = .call { callee := .builtin .append, args := #[s, x], argTypes := #[t, t] })
    (base : Nat) (e : TypeId) (i : TypeInfo) (z : Value) (size bytes : Nat) (ht : P.underlying t = some (.slice e)) (hi : P.info? e = some i) (hz : i.zero = some z)
    (hsize : i.size = size) (hby : i.bytes = bytes) (hzs : z.cells.size = size) (hsz : 0 < size)
    (v : Value) (n : Nat) (xs : List Value) (hs : a.eval s = v) (hown : w.ownsRow base e size v n xs)
    (bx : Nat) (vx : Value) (m : Nat) (news : List Value) (hx : a.eval x = vx) (hox : w.ownsRow bx e size vx m news) (h1 : ∀ u ∈ news, u.oneCell' = true)
    (h63 : n + m ≤ maxLen) (hbytes : (n + m) * bytes ≤ 140737488355328) (hbase : base ≤ w.heap.size)
    (h : ∀ v' w', w'.ownsRow base e size v' (n + m) (xs ++ news) → w.grownBy w' v.ownBlock → wpList P ops Q rest (a.put o.dst v') w') : wpList P ops Q (o :: rest) a w := by
  rcases hox.2 with ⟨rfl, rfl⟩ | ⟨g, cap, cur, rfl, hB, hh, hc, hm, hcs, htk⟩
  · have hn : news = [] := List.eq_nil_of_length_eq_zero (by simpa using hox.1)
    subst hn
    refine wpList_append_own_none hgd s x t ho base e i size ht hi v n xs hs hown hx (h v w ?_ (World.grownBy.refl _ _))
    rw [List.append_nil, Nat.add_zero]; exact hown
  · refine wpList_append_own w hgd s x t ho base e i z size bytes ht hi hz hsize hby hzs hsz v n xs hs hown ⟨g, 0, none⟩ m cap news hx hox.1 (fun j u hj => ?_) h1 h63 hbytes hbase (fun v' w' a1 a2 _ => h v' w' a1 a2)
    have hj2 : j < m * size := by rw [← hox.1]; exact (List.getElem?_eq_some_iff.1 hj).1
    rw [Addr.add_lit, Nat.zero_add, cell_of_row w g j cur e (0, 0) hh, ← hj, ← htk, List.getElem?_take, if_pos hj2]
    simp
theorem ret_int {k : IntKind} {a b : Int} (h : a = b) : Ending.returned (.int k a) = .returned (.int k b) := by rw [h]
theorem ret_bool {a b : Bool} (h : a = b) : Ending.returned (.bool a) = .returned (.bool b) := by rw [h]
theorem size_len (s : ByteArray) : s.data.toList.length = s.size := by simp
theorem toList_ne {s : ByteArray} (h : 0 < s.size) : s.data.toList ≠ [] := by
  intro e
  have h1 := size_len s
  rw [e] at h1
  simp only [List.length_nil] at h1
  omega
theorem toList_nil {s : ByteArray} (h : s.size = 0) : s.data.toList = [] := by
  rw [← List.length_eq_zero_iff, size_len, h]
/-- Of what holds cells nothing but what is named, by its place and its type, is written over; all else stands. -/
structure Wrote (P : Nat → TypeId → Prop) (w w' : World) : Prop where
  os : w'.os = w.os
  tape : w'.tape = w.tape
  output : w'.output = w.output
  size : w.heap.size ≤ w'.heap.size
  block : ∀ k o, w.heap[k]? = some o → (∀ (c : Array Value) (t : TypeId) (f : Nat × Nat), o = Obj.cells c t f → ¬ P k t) → w'.heap[k]? = some o
theorem Wrote.refl (P : Nat → TypeId → Prop) (w : World) : Wrote P w w := ⟨rfl, rfl, rfl, Nat.le_refl _, fun _ _ h _ => h⟩
theorem Wrote.trans {P : Nat → TypeId → Prop} {a b c : World} (h : Wrote P a b) (k : Wrote P b c) : Wrote P a c :=
  ⟨k.os.trans h.os, k.tape.trans h.tape, k.output.trans h.output, Nat.le_trans h.size k.size, fun i o hi hp => k.block i o (h.block i o hi hp) hp⟩
theorem Wrote.of_below {P : Nat → TypeId → Prop} {W W' : World} (h : Below W.heap.size W W') : Wrote P W W' := ⟨h.os, h.tape, h.output, h.size, fun k o hk _ => (h.block k (Array.getElem?_eq_some_iff.1 hk).1).trans hk⟩
theorem Wrote.alloc (P : Nat → TypeId → Prop) (W : World) (o : Obj) : Wrote P W (W.alloc o) := Wrote.of_below ((Below.refl _ W).alloc (Nat.le_refl _) o)
theorem Wrote.of_grown {P : Nat → TypeId → Prop} {W W' : World} {row : Option Nat} (hg : W.grownBy W' row) (hr : ∀ k, row = some k → W.heap.size ≤ k ∨ ∃ (c : Array Value) (t : TypeId) (f : Nat × Nat), W.heap[k]? = some (Obj.cells c t f) ∧ P k t) : Wrote P W W' :=
  ⟨hg.os, hg.tape, hg.output, hg.size, fun k o hk hp => (hg.block k (Array.getElem?_eq_some_iff.1 hk).1 (fun e => by
    rcases hr k e.symm with h | ⟨c, t, f, h, h2⟩
    · have := (Array.getElem?_eq_some_iff.1 hk).1; omega
    · rw [hk] at h
      injection h with h
      exact hp c t f h h2)).trans hk⟩
theorem Wrote.set {P : Nat → TypeId → Prop} {b i : Nat} (W : World) (v : Value) {c : Array Value} {t : TypeId} {f : Nat × Nat} (hh : W.heap[b]? = some (Obj.cells c t f)) (hb : P b t) : Wrote P W (W.setCell ⟨b, i, none⟩ v) :=
  ⟨rfl, rfl, rfl, by rw [size_setCell]; exact Nat.le_refl _, fun k o hk hp => (Below.heap_setCell _ _ _ _ (by show k ≠ b; rintro rfl; rw [hk] at hh; injection hh with hh; exact hp _ _ _ hh hb)).trans hk⟩
theorem Wrote.draw (P : Nat → TypeId → Prop) (W : World) (n : Nat) : Wrote P W (W.drewN n) := ⟨rfl, rfl, rfl, Nat.le_refl _, fun _ _ h _ => h⟩
theorem Wrote.keep {P : Nat → TypeId → Prop} {ok : Nat → Prop} {w w' : World} (h : Wrote P w w') (hk : ∀ k t, ok k → ¬ P k t) : Keep ok w w' := ⟨h.size, fun k ho hl => by
  rw [Array.getElem?_eq_getElem hl]
  exact h.block k _ (Array.getElem?_eq_getElem hl) (fun c t f _ => hk k t ho)⟩
theorem Wrote.below {P : Nat → TypeId → Prop} {w w' : World} {B : Nat} (h : Wrote P w w') (hB : B ≤ w.heap.size) (hp : ∀ k t, P k t → B ≤ k) : Below B w w' :=
  ⟨h.os, h.tape, h.output, h.size, (h.keep (ok := fun k => k < B) (fun k t hk h2 => by have := hp k t h2; omega)).block |> fun g k hk => g k hk (by omega)⟩
theorem Wrote.mono {P P' : Nat → TypeId → Prop} {w w' : World} (h : Wrote P w w') (hp : ∀ k t, P k t → P' k t) : Wrote P' w w' := ⟨h.os, h.tape, h.output, h.size, fun k o hk hn => h.block k o hk (fun c t f e h2 => hn c t f e (hp k t h2))⟩
theorem Wrote.drew {P : Nat → TypeId → Prop} {W W' : World} (h : Wrote P W W') : Wrote P W W'.drew := ⟨h.os, h.tape, h.output, h.size, h.block⟩
theorem Blk.set {w : World} {k : Nat} {c : Array Value} {t : TypeId} (h : Blk w k c t) (i : Nat) (x : Value) : Blk (w.setCell ⟨k, i, none⟩ x) k (c.setIfInBounds i x) t := by
  unfold Blk at h ⊢
  simp only [World.setCell, Array.getElem?_modify, h]
  simp
theorem Blk.other {w : World} {k b i : Nat} {c : Array Value} {t : TypeId} {x : Value} (h : Blk w k c t) (hne : k ≠ b) : Blk (w.setCell ⟨b, i, none⟩ x) k c t := by
  unfold Blk at h ⊢
  rw [Below.heap_setCell _ _ _ _ hne]
  exact h
theorem own_set {w : World} {B b i n size : Nat} {e t : TypeId} {v u : Value} {xs : List Value} {c : Array Value} (h : w.ownsRow B e size v n xs) (hb : Blk w b c t) (ht : t ≠ e) : (w.setCell ⟨b, i, none⟩ u).ownsRow B e size v n xs := by
  refine h.kept (row := some b) ⟨rfl, rfl, rfl, by simp [World.setCell], fun k _ hk => Below.heap_setCell _ _ _ _ (fun e => hk (by simp [e]))⟩ (Or.inr fun e2 => ?_)
  rcases h.2 with ⟨rfl, _⟩ | ⟨g, cap, cur, rfl, hB, hh, _⟩
  · cases e2
  · simp only [Value.ownBlock, Option.some.injEq] at e2
    subst e2
    unfold Blk at hb
    rw [hb] at hh
    injection hh with hh
    injection hh with _ h3 _
    exact ht h3
theorem blk_drew {w : World} {k : Nat} {c : Array Value} {t : TypeId} (h : Blk w k c t) : Blk w.drew k c t := h
/-- append to a row of one's own, as one step of a region that draws. -/
theorem step_append_own {P : Program} {ops : Array Oper} {o : Oper} {a : Act} {w : World} {K : Act → World → Prop} {Q : Exit → Act → World → Prop} {E : Prop}
    (hg : o.guard = none) (s x : Operand) (t : TypeId) (hop : o.op = Op.call { callee := Callee.builtin Builtin.append, args := #[s, x], argTypes := #[t, t] })
    (base : Nat) (e : TypeId) (i : TypeInfo) (z : Value) (size bytes : Nat) (ht : P.underlying t = some (.slice e)) (hi : P.info? e = some i) (hz : i.zero = some z)
    (hsize : i.size = size) (hby : i.bytes = bytes) (hzs : z.cells.size = size) (hsz : 0 < size)
    (v : Value) (n : Nat) (xs : List Value) (hs : a.eval s = v) (hown : w.ownsRow base e size v n xs)
    (ad : Addr) (m c : Nat) (news : List Value) (hx : a.eval x = .slice (some ad) m c) (hl : news.length = m * size) (hnews : ∀ j u, news[j]? = some u → w.cell? (ad.add j) = some u) (h1 : ∀ u ∈ news, u.oneCell' = true)
    (h63 : n + m ≤ maxLen) (hbytes : (n + m) * bytes ≤ 140737488355328) (hbase : base ≤ w.heap.size)
    (h : ∀ v' w', w'.ownsRow base e size v' (n + m) (xs ++ news) → w.grownBy w' v.ownBlock → (v' = .slice none 0 0 ↔ v = .slice none 0 0 ∧ m = 0) → (v'.ownBlock = v.ownBlock ∨ v'.ownBlock = some w.heap.size) → K (a.put o.dst v') w') :
    if Region.wanted o (yielded ops a.tmps) = true then Oper.wp P o a w K Q else E := by
  have hw : Region.wanted o (yielded ops a.tmps) = true := by simp [Region.wanted, hg]
  rw [if_pos hw]
  obtain ⟨v', w', hr, h2, h3, h4, h5⟩ := run_append_own_at (P := P) w base t o.type e i z size bytes ht hi hz hsize hby hzs hsz v n xs hown ad m c news hl hnews h1 h63 hbytes hbase
  unfold Oper.wp execOp
  simp only [hop, resolve, invoke, builtin, Sem.run_bind, Sem.run_pure, Result.andThen_ok, List.map_toArray, List.map_cons, List.map_nil, hs, hx, hr]
  exact h _ _ h2 h3 h4 h5
/-- A call of a function by its number, as one step of a region that draws. -/
theorem step_call {P : Program} {ops : Array Oper} {o : Oper} {a : Act} {w : World} {K : Act → World → Prop} {Q : Exit → Act → World → Prop} {E : Prop} {S : Value → World → Prop}
    (hg : o.guard = none) (f : FuncId) (A : Array Operand) (tys : Array TypeId) (hop : o.op = Op.call { callee := Callee.value (.func f), args := A, argTypes := tys }) (vals : Array Value) (hA : A.map a.eval = vals)
    (he : ∀ w, (callFunc f vals).run P w = .ok (.enter f vals) w) (hc : Calls P f vals w fun e w' => ∃ v, e = .returned v ∧ S v w') (hK : ∀ v w', S v w' → K (a.put o.dst v) w') :
    if Region.wanted o (yielded ops a.tmps) = true then Oper.wp P o a w K Q else E := by
  have hw : Region.wanted o (yielded ops a.tmps) = true := by simp [Region.wanted, hg]
  rw [if_pos hw]
  have h1 : (execOp a.eval o).run P w = .ok (.enter f vals) w := by
    unfold execOp
    simp only [hop, resolve, invoke, Sem.run_bind, Sem.run_pure, Result.andThen_ok, hA]
    simp [go_sem, Act.eval, hA, he]
  unfold Oper.wp
  rw [h1]
  show Calls P f vals w _
  refine hc.mono ?_
  rintro e w' ⟨v, rfl, hs⟩
  exact hK v w' hs
theorem own_typed {w : World} {B : Nat} {e : TypeId} {size n : Nat} {v : Value} {xs : List Value} (h : w.ownsRow B e size v n xs) {g : Nat} (hg : v.ownBlock = some g) : B ≤ g ∧ ∃ cur, w.heap[g]? = some (Obj.cells cur e (0, 0)) := by
  rcases h.2 with ⟨rfl, _⟩ | ⟨g', cap, cur, rfl, hB, hh, _⟩
  · cases hg
  · simp only [Value.ownBlock, Option.some.injEq] at hg
    subst hg
    exact ⟨hB, cur, hh⟩
theorem cells_new (w : World) (l : List Value) (t : TypeId) : ∀ j u, l[j]? = some u → (w.alloc (.cells l.toArray t)).cell? ((⟨w.heap.size, 0, none⟩ : Addr).add j) = some u := by
  intro j u hj
  have h := Blk.cell (Blk.new w l.toArray t) j
  rw [show (⟨w.heap.size, 0, none⟩ : Addr).add j = ⟨w.heap.size, j, none⟩ from by unfold Addr.add; split <;> simp_all, h, ← hj]
  simp
theorem NB.alloc {w1 W : World} (h : Below w1.heap.size w1 W) (o : Obj) : Below w1.heap.size w1 (W.alloc o) := h.alloc h.size o
theorem NB.set {w1 W : World} {k i : Nat} {u : Value} (h : Below w1.heap.size w1 W) (hk : w1.heap.size ≤ k) : Below w1.heap.size w1 (W.setCell ⟨k, i, none⟩ u) := h.setCell hk u
theorem NB.below {w1 W W' : World} (h : Below w1.heap.size w1 W) (hb : Below W.heap.size W W') : Below w1.heap.size w1 W' := below_next h hb
theorem NB.new1 {W : World} {o : Obj} {c : Array Value} {t : TypeId} : Blk ((W.alloc o).alloc (.cells c t)) (W.heap.size + 1) c t := by have := Blk.new (W.alloc o) c t; simp only [World.size_alloc] at this; exact this
/-- A row of bytes of one's own stays where others are written. -/
theorem own_wrote {P : Nat → TypeId → Prop} {B n size : Nat} {e : TypeId} {v : Value} {xs : List Value} {w w' : World} (h : w.ownsRow B e size v n xs) (hw : Wrote P w w') (hp : ∀ g, ¬ P g e) : w'.ownsRow B e size v n xs := by
  refine ⟨h.1, ?_⟩
  rcases h.2 with h2 | ⟨g, cap, cur, e1, e2, e3, e4⟩
  · exact .inl h2
  · exact .inr ⟨g, cap, cur, e1, e2, hw.block g _ e3 (by rintro c t f h; injection h with _ h2 _; subst h2; exact hp g), e4⟩
/-- Two lists, part by part. -/
inductive All2 {α β : Type} (R : α → β → Prop) : List α → List β → Prop where
  | nil : All2 R [] []
  | cons {a : α} {b : β} {l : List α} {m : List β} (h : R a b) (t : All2 R l m) : All2 R (a :: l) (b :: m)
end Go.Proofs.Ytalicfpcmcbdbaa
