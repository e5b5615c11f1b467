/- Readings of bytes, blocks, rows of one's own: what the walks lean on. -/
import Derived.Test.YtfngkdcjifdliaaRows
import Derived.WalkKit
import Derived.WalkSpells
import Derived.WalkLawsBesides
import Derived.Laws.AppendOwnNone
import Derived.Laws.OwnMore
import Derived.Lib.BufSteps
import Derived.Laws.IdiomStrings
import Derived.Shelf.Bytes.SlSmallAll
import Derived.Deep.LoopGhost
import Derived.Deep.CutBlock
import Derived.Deep.DeepCutAuto
import Derived.Deep.RegionHeld3
import Derived.Deep.RegionLaw
import Derived.BigQuiet
import Derived.Maps.AppendAt
set_option linter.unusedVariables false
set_option linter.unusedSimpArgs false
set_option linter.unnecessarySimpa false
set_option linter.deprecated false
namespace Go.Proofs.Ytfngkdcjifdliaa
open Go.RowKit


/-- A fact kept from the walk. -/
theorem hide {p : Prop} (h : p) : Hid p := h

theorem below_next {w wr w' : World} (h : Below w.heap.size w wr) (k : Below wr.heap.size wr w') : Below w.heap.size w w' := h.trans (k.mono h.size)

/-- Bytes at a place. -/
def RBs (w : World) (b o : Nat) (bs : List UInt8) : Prop := ∀ i, i < bs.length → w.cell? ⟨b, o + i, none⟩ = some (.int .u8 ((bs[i]?.getD 0).toNat : Int))

/-- A slice of bytes reads as a list; its block is as told. -/
def RBo (ok : Nat → Prop) (w : World) (a : Option Addr) (bs : List UInt8) : Prop := bs.length ≤ 140737488351232 ∧ (bs ≠ [] → ∃ b o, a = some ⟨b, o, none⟩ ∧ ok b ∧ b < w.heap.size ∧ RBs w b o bs)

/-- Wherever it lies. -/
def RB (w : World) (a : Option Addr) (bs : List UInt8) : Prop := RBo (fun _ => True) w a bs
/-- The blocks that are so stand as they stood. -/
structure Keep (ok : Nat → Prop) (w w' : World) : Prop where
  size : w.heap.size ≤ w'.heap.size
  block : ∀ k, ok k → k < w.heap.size → w'.heap[k]? = w.heap[k]?
theorem Keep.cell {ok : Nat → Prop} {w w' : World} (h : Keep ok w w') {b : Nat} (ho : ok b) (hb : b < w.heap.size) (o : Nat) : w'.cell? ⟨b, o, none⟩ = w.cell? ⟨b, o, none⟩ :=
  World.cell?_of_block (w := w) (h.block b ho hb)
theorem keep_below {ok : Nat → Prop} {w w' : World} (h : Below w.heap.size w w') : Keep ok w w' := ⟨h.size, fun k _ hk => h.block k hk⟩

theorem RBs.keep {ok : Nat → Prop} {w w' : World} {b o : Nat} {bs : List UInt8} (hk : Keep ok w w') (ho : ok b) (hb : b < w.heap.size) (h : RBs w b o bs) : RBs w' b o bs :=
  fun i hi => (hk.cell ho hb _).trans (h i hi)
theorem RBs.below {w w' : World} {b o : Nat} {bs : List UInt8} {B : Nat} (hb : b < B) (h : RBs w b o bs) (hw : Below B w w') : RBs w' b o bs :=
  fun i hi => (hw.cell (p := ⟨b, o + i, none⟩) hb).trans (h i hi)
theorem RBo.keep {ok : Nat → Prop} {w w' : World} {a : Option Addr} {bs : List UInt8} (hk : Keep ok w w') (h : RBo ok w a bs) : RBo ok w' a bs :=
  ⟨h.1, fun hn => by
    obtain ⟨b, o, e, ho, hb, hr⟩ := h.2 hn
    exact ⟨b, o, e, ho, Nat.lt_of_lt_of_le hb hk.size, hr.keep hk ho hb⟩⟩

theorem RBo.weak {ok ok' : Nat → Prop} {w : World} (hk : ∀ k, ok k → ok' k) {a : Option Addr} {bs : List UInt8} (h : RBo ok w a bs) : RBo ok' w a bs :=
  ⟨h.1, fun hn => by
    obtain ⟨b, o, e, ho, hb, hr⟩ := h.2 hn
    exact ⟨b, o, e, hk b ho, hb, hr⟩⟩
theorem RB.below {w w' : World} {a : Option Addr} {bs : List UInt8} (h : RB w a bs) (hw : Below w.heap.size w w') : RB w' a bs := RBo.keep (keep_below hw) h
theorem RBo.nil {ok : Nat → Prop} {w : World} {a : Option Addr} : RBo ok w a [] := ⟨by simp, fun h => absurd rfl h⟩
theorem RB.get {w : World} {a : Option Addr} {bs : List UInt8} (h : RB w a bs) (hn : bs ≠ []) : ∃ b o, a = some ⟨b, o, none⟩ ∧ b < w.heap.size ∧ RBs w b o bs := by
  obtain ⟨b, o, e, _, hb, hr⟩ := h.2 hn
  exact ⟨b, o, e, hb, hr⟩

/-- Old cells and old marks, by number. -/
theorem bcell {W w1 : World} (hb : Below W.heap.size W w1) : (∀ b o, b < W.heap.size → w1.cell? ⟨b, o, none⟩ = W.cell? ⟨b, o, none⟩) ∧ (∀ b o, b < W.heap.size → w1.frozen? ⟨b, o, none⟩ = W.frozen? ⟨b, o, none⟩) :=
  ⟨fun b o h => hb.cell (p := ⟨b, o, none⟩) h, fun b o h => hb.frozen (p := ⟨b, o, none⟩) h⟩


theorem Keep.refl (ok : Nat → Prop) (w : World) : Keep ok w w := ⟨Nat.le_refl _, fun _ _ _ => rfl⟩
theorem Keep.trans {ok : Nat → Prop} {a b c : World} (h : Keep ok a b) (k : Keep ok b c) : Keep ok a c :=
  ⟨Nat.le_trans h.size k.size, fun i ho hi => (k.block i ho (Nat.lt_of_lt_of_le hi h.size)).trans (h.block i ho hi)⟩
theorem Keep.setS {ok : Nat → Prop} {a w : World} (h : Keep ok a w) {b i : Nat} {v : Value} (hb : ¬ ok b) : Keep ok a (w.setCell ⟨b, i, none⟩ v) :=
  h.trans ⟨by simp [World.setCell], fun k hk _ => Below.heap_setCell _ _ _ _ (by rintro rfl; exact hb hk)⟩
theorem Keep.allocS {ok : Nat → Prop} {a w : World} (h : Keep ok a w) {o : Obj} : Keep ok a (w.alloc o) :=
  h.trans ⟨by simp, fun k _ hk => Below.heap_alloc _ _ _ hk⟩
theorem Keep.drewS {ok : Nat → Prop} {a w : World} (h : Keep ok a w) : Keep ok a w.drew := ⟨h.size, h.block⟩
theorem Keep.drewNS {ok : Nat → Prop} {a w : World} (h : Keep ok a w) {n : Nat} : Keep ok a (w.drewN n) := ⟨h.size, h.block⟩
theorem size_setCell (w : World) (p : Addr) (v : Value) : (w.setCell p v).heap.size = w.heap.size := by simp [World.setCell]

/-- A whole block. -/
def Blk (w : World) (k : Nat) (c : Array Value) (t : TypeId) : Prop := w.heap[k]? = some (.cells c t (0, 0))
theorem Blk.cell {w : World} {k : Nat} {c : Array Value} {t : TypeId} (h : Blk w k c t) (i : Nat) : w.cell? ⟨k, i, none⟩ = c[i]? := by
  unfold Blk at h
  simp [World.cell?, h]
theorem Blk.free {w : World} {k : Nat} {c : Array Value} {t : TypeId} (h : Blk w k c t) (i : Nat) : w.frozen? ⟨k, i, none⟩ = false := by
  unfold Blk at h
  simp [World.frozen?, h]
theorem Blk.lt {w : World} {k : Nat} {c : Array Value} {t : TypeId} (h : Blk w k c t) : k < w.heap.size := (Array.getElem?_eq_some_iff.1 h).1
theorem Blk.new (w : World) (c : Array Value) (t : TypeId) : Blk (w.alloc (.cells c t)) w.heap.size c t := by
  show (w.heap.push _)[w.heap.size]? = _
  simp
theorem Blk.alloc {w : World} {k : Nat} {c : Array Value} {t : TypeId} (h : Blk w k c t) (o : Obj) : Blk (w.alloc o) k c t :=
  (Below.heap_alloc w o k h.lt).trans h
theorem Blk.keep {ok : Nat → Prop} {w w' : World} {k : Nat} {c : Array Value} {t : TypeId} (h : Blk w k c t) (hk : Keep ok w w') (ho : ok k) : Blk w' k c t := (hk.block k ho h.lt).trans h
theorem Blk.below {w w' : World} {k : Nat} {c : Array Value} {t : TypeId} (h : Blk w k c t) (hb : Below w.heap.size w w') : Blk w' k c t := (hb.block k h.lt).trans h
theorem Blk.ne {w : World} {k k' : Nat} {c c' : Array Value} {t t' : TypeId} (h : Blk w k c t) (h' : Blk w k' c' t') (ht : t ≠ t') : k ≠ k' := by
  rintro rfl
  unfold Blk at h h'
  rw [h] at h'
  injection h' with h'
  injection h' with _ h'
  exact ht h'
theorem Blk.own_ne {w : World} {k : Nat} {c : Array Value} {t : TypeId} (h : Blk w k c t) {B : Nat} {e : TypeId} {size n : Nat} {v : Value} {xs : List Value} (ho : w.ownsRow B e size v n xs) (ht : t ≠ e) : some k ≠ v.ownBlock := by
  rcases ho.2 with ⟨rfl, _⟩ | ⟨g, cap, cur, rfl, _, hg, _⟩
  · simp [Value.ownBlock]
  · intro e1
    simp only [Value.ownBlock, Option.some.injEq] at e1
    exact Blk.ne h (k' := g) hg ht e1
theorem Blk.grown {w w' : World} {k : Nat} {c : Array Value} {t : TypeId} (h : Blk w k c t) {row : Option Nat} (hg : w.grownBy w' row) (hne : some k ≠ row) : Blk w' k c t := (hg.block k h.lt hne).trans h
theorem add_mk (b o n : Nat) : (⟨b, o, none⟩ : Addr).add n = ⟨b, o + n, none⟩ := by
  unfold Addr.add
  split
  · rename_i h; subst h; rfl
  · rfl
theorem info5 : (Try.prog.info? 5).map (fun i => (i.zero, i.size, i.bytes)) = some (some (.int .u8 0), 1, 1) := by kernel_rfl
theorem own_below {w w' : World} {B : Nat} {e : TypeId} {size n : Nat} {v : Value} {xs : List Value} (h : w.ownsRow B e size v n xs) (hb : Below w.heap.size w w') : w'.ownsRow B e size v n xs := by
  refine ⟨h.1, ?_⟩
  rcases h.2 with h2 | ⟨g, cap, cur, e1, e2, e3, e4⟩
  · exact .inl h2
  · exact .inr ⟨g, cap, cur, e1, e2, (hb.block g (Array.getElem?_eq_some_iff.1 e3).1).trans e3, e4⟩
theorem own_base {w : World} {B B' : Nat} {e : TypeId} {size n : Nat} {v : Value} {xs : List Value} (h : w.ownsRow B e size v n xs) (hB : B' ≤ B) : w.ownsRow B' e size v n xs := by
  refine ⟨h.1, ?_⟩
  rcases h.2 with h2 | ⟨g, cap, cur, e1, e2, e3⟩
  · exact .inl h2
  · exact .inr ⟨g, cap, cur, e1, by omega, e3⟩
theorem own_at {w : World} {B n size : Nat} {e : TypeId} {v : Value} {xs : List Value} (h : w.ownsRow B e size v n xs) (hn : n ≠ 0) : ∃ g cap, v = .slice (some ⟨g, 0, none⟩) n cap ∧ B ≤ g ∧ g < w.heap.size ∧ n ≤ cap ∧ (∀ j u, xs[j]? = some u → w.cell? ⟨g, j, none⟩ = some u) := by
  rcases h.2 with ⟨_, h0⟩ | ⟨g, cap, cur, rfl, hB, hh, hc, hm, hs, ht⟩
  · exact absurd h0 hn
  · refine ⟨g, cap, rfl, hB, (Array.getElem?_eq_some_iff.1 hh).1, hc, fun j u hj => ?_⟩
    have hj2 : j < n * size := by rw [← h.1]; exact (List.getElem?_eq_some_iff.1 hj).1
    rw [cell_of_row w g j cur e (0, 0) hh, ← hj, ← ht, List.getElem?_take, if_pos hj2]
    simp
theorem own_shape {w : World} {B n size : Nat} {e : TypeId} {v : Value} {xs : List Value} (h : w.ownsRow B e size v n xs) : ∃ a cap, v = .slice a n cap ∧ (n ≠ 0 → ∃ g, a = some ⟨g, 0, none⟩ ∧ B ≤ g ∧ g < w.heap.size ∧ ∀ j u, xs[j]? = some u → w.cell? ⟨g, j, none⟩ = some u) := by
  by_cases hn : n = 0
  · subst hn
    rcases h.2 with ⟨e1, _⟩ | ⟨g, cap, cur, rfl, _⟩
    · exact ⟨none, 0, e1, fun h => absurd rfl h⟩
    · exact ⟨_, cap, rfl, fun h => absurd rfl h⟩
  · obtain ⟨g, cap, rfl, h1, h2, _, h3⟩ := own_at h hn
    exact ⟨_, cap, rfl, fun _ => ⟨g, rfl, h1, h2, h3⟩⟩

/-- append of a row of one's own to another, whatever both hold. -/
theorem wpList_append_rows {P : Program} {w : World} {ops : Array Oper} {rest : List Oper} {o : Oper} {a : Act} {Q : Exit → Act → World → Prop} (hgd : o.guard = none) (s x : Operand) (t : TypeId)
    (ho : o.op = .call { callee := .builtin .append, args := #[s, x], argTypes := #[t, t] })
    (base : Nat) (e : TypeId) (i : TypeInfo) (z : Value) (size bytes : Nat) (ht : P.underlying t = some (.slice e)) (hi : P.info? e = some i) (hz : i.zero = some z)
    (hsize : i.size = size) (hby : i.bytes = bytes) (hzs : z.cells.size = size) (hsz : 0 < size)
    (v : Value) (n : Nat) (xs : List Value) (hs : a.eval s = v) (hown : w.ownsRow base e size v n xs)
    (bx : Nat) (vx : Value) (m : Nat) (news : List Value) (hx : a.eval x = vx) (hox : w.ownsRow bx e size vx m news) (h1 : ∀ u ∈ news, u.oneCell' = true)
    (h63 : n + m ≤ maxLen) (hbytes : (n + m) * bytes ≤ 140737488355328) (hbase : base ≤ w.heap.size)
    (h : ∀ v' w', w'.ownsRow base e size v' (n + m) (xs ++ news) → w.grownBy w' v.ownBlock → wpList P ops Q rest (a.put o.dst v') w') : wpList P ops Q (o :: rest) a w := by
  rcases hox.2 with ⟨rfl, rfl⟩ | ⟨g, cap, cur, rfl, hB, hh, hc, hm, hcs, htk⟩
  · have hn : news = [] := List.eq_nil_of_length_eq_zero (by simpa using hox.1)
    subst hn
    refine wpList_append_own_none hgd s x t ho base e i size ht hi v n xs hs hown hx (h v w ?_ (World.grownBy.refl _ _))
    rw [List.append_nil, Nat.add_zero]; exact hown
  · refine wpList_append_own w hgd s x t ho base e i z size bytes ht hi hz hsize hby hzs hsz v n xs hs hown ⟨g, 0, none⟩ m cap news hx hox.1 (fun j u hj => ?_) h1 h63 hbytes hbase (fun v' w' a1 a2 _ => h v' w' a1 a2)
    have hj2 : j < m * size := by rw [← hox.1]; exact (List.getElem?_eq_some_iff.1 hj).1
    rw [Addr.add_lit, Nat.zero_add, cell_of_row w g j cur e (0, 0) hh, ← hj, ← htk, List.getElem?_take, if_pos hj2]
    simp

/-- The buffer holds bytes. -/
structure Buf (w : World) (v : Value) (acc : List UInt8) (wr : World) : Prop where
  own : wr.ownsRow w.heap.size 5 1 v acc.length (Lib.byteCells acc)
  below : Below w.heap.size w wr
theorem Buf.push {w wr w2 : World} {v v' : Value} {acc nb : List UInt8} (h : Buf w v acc wr) {w1 : World} (h1 : Below wr.heap.size wr w1)
    (ho : w2.ownsRow w.heap.size 5 1 v' (acc.length + nb.length) (Lib.byteCells acc ++ Lib.byteCells nb)) (hg : w1.grownBy w2 v.ownBlock) : Buf w v' (acc ++ nb) w2 := by
  have hb := h.below.trans (h1.mono h.below.size)
  refine ⟨?_, ?_⟩
  · rw [List.length_append, Lib.byteCells_append]
    exact ho
  · refine hb.grown hg hb.size fun k hk => ?_
    rcases h.own.2 with ⟨rfl, _⟩ | ⟨g, cap, cur, rfl, hB, _⟩
    · simp [Value.ownBlock] at hk
    · simp only [Value.ownBlock, Option.some.injEq] at hk
      omega
/-- One byte more. -/
theorem Buf.push1 {w wr w2 : World} {v v' : Value} {acc : List UInt8} (h : Buf w v acc wr) (x : UInt8) {o : Obj} {m : Nat} {vx : Value}
    (ho : w2.ownsRow w.heap.size 5 1 v' m (Lib.byteCells acc ++ [vx])) (hg : (wr.alloc o).grownBy w2 v.ownBlock) (hm : m = acc.length + 1) (hvx : vx = .int .u8 (x.toNat : Int)) : Buf w v' (acc ++ [x]) w2 := by
  subst hm hvx
  exact h.push (nb := [x]) ((Below.refl _ _).alloc (Nat.le_refl _) _) ho hg
theorem Buf.start (w : World) : Buf w (.slice none 0 0) [] w := ⟨World.ownsRow_nil _ _ _ _, Below.refl _ _⟩
theorem Buf.shape {w wr : World} {v : Value} {acc : List UInt8} (h : Buf w v acc wr) : ∃ a cap, v = .slice a acc.length cap ∧ (acc ≠ [] → ∃ g, a = some ⟨g, 0, none⟩ ∧ w.heap.size ≤ g ∧ g < wr.heap.size ∧ ∀ j u, (Lib.byteCells acc)[j]? = some u → wr.cell? ⟨g, j, none⟩ = some u) := by
  obtain ⟨a, cap, e, h2⟩ := own_shape h.own
  exact ⟨a, cap, e, fun hn => h2 (by simpa using hn)⟩
theorem Buf.str {w wr : World} {a : Option Addr} {n c : Nat} {acc : List UInt8} (h : Buf w (.slice a n c) acc wr) : n = acc.length ∧ (convert 25 9 (.slice a n c)).run Try.prog wr = .ok (.string ⟨acc.toArray⟩) wr := by
  obtain ⟨a', cap, e, hc⟩ := h.shape
  injection e with e1 e2 e3
  subst e1 e2 e3
  refine ⟨rfl, ?_⟩
  by_cases h0 : acc = []
  · subst h0
    exact run_convert_bytes_zero wr 25 5 Try.underlying25 Try.underlying5 a c 9 Try.underlying9
  · obtain ⟨g, rfl, _, _, hr⟩ := hc h0
    refine run_convert_bytes_back wr 25 9 5 ⟨g, 0, none⟩ c acc Try.underlying25 Try.underlying5 Try.underlying9 fun j hj => ?_
    rw [add_mk, Nat.zero_add]
    refine hr j _ ?_
    unfold Lib.byteCells
    rw [List.getElem?_map, List.getElem?_eq_getElem hj]
    rfl
theorem drop_byte (s : ByteArray) (k : Nat) (h : k < s.size) : s.data.toList.drop k = s[k]'h :: s.data.toList.drop (k + 1) := by
  rw [List.drop_eq_getElem_cons (by simpa using h)]
  simp
  rfl
end Go.Proofs.Ytfngkdcjifdliaa
