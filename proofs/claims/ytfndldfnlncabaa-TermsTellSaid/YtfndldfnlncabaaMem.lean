/- What it is for a value to read as a term, as bytes, in a world; and that such readings last while the call makes memory of its own. -/
import Derived.Test.YtfndldfnlncabaaRows
import Derived.WalkKit
import Derived.WalkSpells
import Derived.WalkLawsBesides
import Derived.Test.YtfndldfnlncabaaPlain
namespace Go.Proofs.Ytfndldfnlncabaa
set_option linter.unusedVariables false
set_option linter.unusedSimpArgs false
set_option linter.unnecessarySimpa false
set_option linter.deprecated false
open Go.RowKit

/-- A fact kept from the walk. -/
theorem hide {p : Prop} (h : p) : Hid p := h

theorem below_next {w wr w' : World} (h : Below w.heap.size w wr) (k : Below wr.heap.size wr w') : Below w.heap.size w w' := h.trans (k.mono h.size)

/-- Bytes at a place. -/
def RBs (w : World) (b o : Nat) (bs : List UInt8) : Prop := ∀ i, i < bs.length → w.cell? ⟨b, o + i, none⟩ = some (.int .u8 ((bs[i]?.getD 0).toNat : Int))

/-- A slice of bytes reads as a list; its block is as told. -/
def RBo (ok : Nat → Prop) (w : World) (a : Option Addr) (bs : List UInt8) : Prop := bs.length ≤ 140737488351232 ∧ (bs ≠ [] → ∃ b o, a = some ⟨b, o, none⟩ ∧ ok b ∧ b < w.heap.size ∧ RBs w b o bs)

mutual
/-- A value reads as a term; all blocks are as told. -/
def RTo (ok : Nat → Prop) (w : World) : Tm → Value → Prop
  | .mk k c t ks, v => ∃ a1 c1 a2 c2, v = .agg #[.int .i64 k, .string c, .slice a1 t.length c1, .slice a2 ks.length c2] ∧ (-9223372036854775808 ≤ k ∧ k ≤ 9223372036854775807) ∧ c.size ≤ 140737488351232 ∧ RBo ok w a1 t ∧
      ks.length ≤ 140737488351232 ∧ (ks ≠ [] → ∃ b o, a2 = some ⟨b, o, none⟩ ∧ ok b ∧ b < w.heap.size ∧ RTos ok w b o ks)
/-- Terms lie one behind the other. -/
def RTos (ok : Nat → Prop) (w : World) (b : Nat) : Nat → List Tm → Prop
  | _, [] => True
  | o, x :: xs => (∃ v0 v1 v2 v3, w.cell? ⟨b, o, none⟩ = some v0 ∧ w.cell? ⟨b, o + 1, none⟩ = some v1 ∧ w.cell? ⟨b, o + 2, none⟩ = some v2 ∧ w.cell? ⟨b, o + 3, none⟩ = some v3 ∧ RTo ok w x (.agg #[v0, v1, v2, v3])) ∧ RTos ok w b (o + 4) xs
end

/-- A slice of terms reads as a list. -/
def RKo (ok : Nat → Prop) (w : World) (a : Option Addr) (ks : List Tm) : Prop := ks.length ≤ 140737488351232 ∧ (ks ≠ [] → ∃ b o, a = some ⟨b, o, none⟩ ∧ ok b ∧ b < w.heap.size ∧ RTos ok w b o ks)

/-- Wherever it lies. -/
def RB (w : World) (a : Option Addr) (bs : List UInt8) : Prop := RBo (fun _ => True) w a bs
def RT (w : World) (T : Tm) (v : Value) : Prop := RTo (fun _ => True) w T v
def RK (w : World) (a : Option Addr) (ks : List Tm) : Prop := RKo (fun _ => True) w a ks

/-- The blocks that are so stand as they stood. -/
structure Keep (ok : Nat → Prop) (w w' : World) : Prop where
  size : w.heap.size ≤ w'.heap.size
  block : ∀ k, ok k → k < w.heap.size → w'.heap[k]? = w.heap[k]?
theorem Keep.cell {ok : Nat → Prop} {w w' : World} (h : Keep ok w w') {b : Nat} (ho : ok b) (hb : b < w.heap.size) (o : Nat) : w'.cell? ⟨b, o, none⟩ = w.cell? ⟨b, o, none⟩ :=
  World.cell?_of_block (w := w) (h.block b ho hb)
theorem keep_below {ok : Nat → Prop} {w w' : World} (h : Below w.heap.size w w') : Keep ok w w' := ⟨h.size, fun k _ hk => h.block k hk⟩

theorem RBs.keep {ok : Nat → Prop} {w w' : World} {b o : Nat} {bs : List UInt8} (hk : Keep ok w w') (ho : ok b) (hb : b < w.heap.size) (h : RBs w b o bs) : RBs w' b o bs :=
  fun i hi => (hk.cell ho hb _).trans (h i hi)
theorem RBs.below {w w' : World} {b o : Nat} {bs : List UInt8} {B : Nat} (hb : b < B) (h : RBs w b o bs) (hw : Below B w w') : RBs w' b o bs :=
  fun i hi => (hw.cell (p := ⟨b, o + i, none⟩) hb).trans (h i hi)
theorem RBo.keep {ok : Nat → Prop} {w w' : World} {a : Option Addr} {bs : List UInt8} (hk : Keep ok w w') (h : RBo ok w a bs) : RBo ok w' a bs :=
  ⟨h.1, fun hn => by
    obtain ⟨b, o, e, ho, hb, hr⟩ := h.2 hn
    exact ⟨b, o, e, ho, Nat.lt_of_lt_of_le hb hk.size, hr.keep hk ho hb⟩⟩

mutual
theorem RTo.keep {ok : Nat → Prop} {w w' : World} (hk : Keep ok w w') : ∀ {T : Tm} {v : Value}, RTo ok w T v → RTo ok w' T v
  | .mk k c t ks, v, h => by
    rw [RTo] at h ⊢
    obtain ⟨a1, c1, a2, c2, e, hr, hc, hb, hl, hks⟩ := h
    exact ⟨a1, c1, a2, c2, e, hr, hc, hb.keep hk, hl, fun hn => by
      obtain ⟨b, o, e2, ho, hb2, hr2⟩ := hks hn
      exact ⟨b, o, e2, ho, Nat.lt_of_lt_of_le hb2 hk.size, RTos.keep hk ho hb2 hr2⟩⟩
theorem RTos.keep {ok : Nat → Prop} {w w' : World} (hk : Keep ok w w') {b : Nat} (ho : ok b) (hb : b < w.heap.size) : ∀ {ks : List Tm} {o : Nat}, RTos ok w b o ks → RTos ok w' b o ks
  | [], _, _ => by rw [RTos]; trivial
  | x :: xs, o, h => by
    rw [RTos] at h ⊢
    obtain ⟨⟨v0, v1, v2, v3, h0, h1, h2, h3, hx⟩, hr⟩ := h
    exact ⟨⟨v0, v1, v2, v3, (hk.cell ho hb _).trans h0, (hk.cell ho hb _).trans h1, (hk.cell ho hb _).trans h2, (hk.cell ho hb _).trans h3, RTo.keep hk hx⟩, RTos.keep hk ho hb hr⟩
end
theorem RBo.weak {ok ok' : Nat → Prop} {w : World} (hk : ∀ k, ok k → ok' k) {a : Option Addr} {bs : List UInt8} (h : RBo ok w a bs) : RBo ok' w a bs :=
  ⟨h.1, fun hn => by
    obtain ⟨b, o, e, ho, hb, hr⟩ := h.2 hn
    exact ⟨b, o, e, hk b ho, hb, hr⟩⟩
mutual
theorem RTo.weak {ok ok' : Nat → Prop} {w : World} (hk : ∀ k, ok k → ok' k) : ∀ {T : Tm} {v : Value}, RTo ok w T v → RTo ok' w T v
  | .mk k c t ks, v, h => by
    rw [RTo] at h ⊢
    obtain ⟨a1, c1, a2, c2, e, hr, hc, hb, hl, hks⟩ := h
    exact ⟨a1, c1, a2, c2, e, hr, hc, hb.weak hk, hl, fun hn => by
      obtain ⟨b, o, e2, ho, hb2, hr2⟩ := hks hn
      exact ⟨b, o, e2, hk b ho, hb2, RTos.weak hk hr2⟩⟩
theorem RTos.weak {ok ok' : Nat → Prop} {w : World} (hk : ∀ k, ok k → ok' k) {b : Nat} : ∀ {ks : List Tm} {o : Nat}, RTos ok w b o ks → RTos ok' w b o ks
  | [], _, _ => by rw [RTos]; trivial
  | x :: xs, o, h => by
    rw [RTos] at h ⊢
    obtain ⟨⟨v0, v1, v2, v3, h0, h1, h2, h3, hx⟩, hr⟩ := h
    exact ⟨⟨v0, v1, v2, v3, h0, h1, h2, h3, RTo.weak hk hx⟩, RTos.weak hk hr⟩
end
theorem RTo.to {ok : Nat → Prop} {w : World} {T : Tm} {v : Value} (h : RTo ok w T v) : RT w T v := RTo.weak (fun _ _ => trivial) h

theorem RB.below {w w' : World} {a : Option Addr} {bs : List UInt8} (h : RB w a bs) (hw : Below w.heap.size w w') : RB w' a bs := RBo.keep (keep_below hw) h
theorem RT.below {w w' : World} (hw : Below w.heap.size w w') {T : Tm} {v : Value} (h : RT w T v) : RT w' T v := RTo.keep (keep_below hw) h
theorem RKo.keep {ok : Nat → Prop} {w w' : World} {a : Option Addr} {ks : List Tm} (hk : Keep ok w w') (h : RKo ok w a ks) : RKo ok w' a ks :=
  ⟨h.1, fun hn => by
    obtain ⟨b, o, e, ho, hb, hr⟩ := h.2 hn
    exact ⟨b, o, e, ho, Nat.lt_of_lt_of_le hb hk.size, RTos.keep hk ho hb hr⟩⟩
theorem RK.below {w w' : World} {a : Option Addr} {ks : List Tm} (h : RK w a ks) (hw : Below w.heap.size w w') : RK w' a ks := RKo.keep (keep_below hw) h

theorem RTos.get {ok : Nat → Prop} {w : World} {b : Nat} : ∀ {ks : List Tm} {o : Nat}, RTos ok w b o ks → ∀ i (hi : i < ks.length), ∃ v0 v1 v2 v3, w.cell? ⟨b, o + i * 4, none⟩ = some v0 ∧ w.cell? ⟨b, o + i * 4 + 1, none⟩ = some v1 ∧ w.cell? ⟨b, o + i * 4 + 2, none⟩ = some v2 ∧ w.cell? ⟨b, o + i * 4 + 3, none⟩ = some v3 ∧ RTo ok w ks[i] (.agg #[v0, v1, v2, v3])
  | [], _, _, i, hi => by simp at hi
  | x :: xs, o, h, 0, _ => by
    rw [RTos] at h
    simpa using h.1
  | x :: xs, o, h, i + 1, hi => by
    rw [RTos] at h
    have := RTos.get h.2 i (by simpa using hi)
    simpa [Nat.add_mul, Nat.add_assoc, Nat.add_comm 4] using this
theorem RTos.of {ok : Nat → Prop} {w : World} {b : Nat} : ∀ {ks : List Tm} {o : Nat}, (∀ i (hi : i < ks.length), ∃ v0 v1 v2 v3, w.cell? ⟨b, o + i * 4, none⟩ = some v0 ∧ w.cell? ⟨b, o + i * 4 + 1, none⟩ = some v1 ∧ w.cell? ⟨b, o + i * 4 + 2, none⟩ = some v2 ∧ w.cell? ⟨b, o + i * 4 + 3, none⟩ = some v3 ∧ RTo ok w ks[i] (.agg #[v0, v1, v2, v3])) → RTos ok w b o ks
  | [], _, _ => by rw [RTos]; trivial
  | x :: xs, o, h => by
    rw [RTos]
    refine ⟨?_, RTos.of fun i hi => ?_⟩
    · have h0 := h 0 (by simp)
      simp only [Nat.zero_mul, Nat.add_zero] at h0
      exact h0
    have := h (i + 1) (by simpa using hi)
    simpa [Nat.add_mul, Nat.add_assoc, Nat.add_comm 4] using this

/-- A term that reads, laid open. -/
theorem RTo.open {ok : Nat → Prop} {w : World} {T : Tm} {v : Value} (h : RTo ok w T v) : ∃ a1 c1 a2 c2, v = .agg #[.int .i64 T.kind, .string T.cons, .slice a1 T.text.length c1, .slice a2 T.kids.length c2] ∧ (-9223372036854775808 ≤ T.kind ∧ T.kind ≤ 9223372036854775807) ∧ T.cons.size ≤ 140737488351232 ∧ RBo ok w a1 T.text ∧ RKo ok w a2 T.kids := by
  cases T
  rw [RTo] at h
  obtain ⟨a1, c1, a2, c2, e, hk, hc, hb, hl, hr⟩ := h
  exact ⟨a1, c1, a2, c2, e, hk, hc, hb, hl, hr⟩
theorem RT.open {w : World} {T : Tm} {v : Value} (h : RT w T v) : ∃ a1 c1 a2 c2, v = .agg #[.int .i64 T.kind, .string T.cons, .slice a1 T.text.length c1, .slice a2 T.kids.length c2] ∧ (-9223372036854775808 ≤ T.kind ∧ T.kind ≤ 9223372036854775807) ∧ T.cons.size ≤ 140737488351232 ∧ RB w a1 T.text ∧ RK w a2 T.kids := RTo.open h
theorem RTo.shut {ok : Nat → Prop} {w : World} {k : Int} {c : ByteArray} {t : List UInt8} {ks : List Tm} {a1 : Option Addr} {c1 : Nat} {a2 : Option Addr} {c2 n1 n2 : Nat} (hk : -9223372036854775808 ≤ k ∧ k ≤ 9223372036854775807) (hc : c.size ≤ 140737488351232) (hb : RBo ok w a1 t) (hr : RKo ok w a2 ks) (e1 : n1 = t.length) (e2 : n2 = ks.length) :
    RTo ok w (.mk k c t ks) (.agg #[.int .i64 k, .string c, .slice a1 n1 c1, .slice a2 n2 c2]) := by
  subst e1 e2
  rw [RTo]
  exact ⟨a1, c1, a2, c2, rfl, hk, hc, hb, hr.1, hr.2⟩
theorem RBo.nil {ok : Nat → Prop} {w : World} {a : Option Addr} : RBo ok w a [] := ⟨by simp, fun h => absurd rfl h⟩
theorem RKo.nil {ok : Nat → Prop} {w : World} {a : Option Addr} : RKo ok w a [] := ⟨by simp, fun h => absurd rfl h⟩

/-- An element of a slice of terms: its cells, and its reading, laid open. -/
theorem RKo.get {ok : Nat → Prop} {w : World} {a : Option Addr} {ks : List Tm} (h : RKo ok w a ks) (i : Nat) (hi : i < ks.length) : ∃ b o a1 c1 a2 c2, a = some ⟨b, o, none⟩ ∧ b < w.heap.size ∧
    w.cell? ⟨b, o + i * 4, none⟩ = some (.int .i64 ks[i].kind) ∧ w.cell? ⟨b, o + i * 4 + 1, none⟩ = some (.string ks[i].cons) ∧ w.cell? ⟨b, o + i * 4 + 2, none⟩ = some (.slice a1 ks[i].text.length c1) ∧ w.cell? ⟨b, o + i * 4 + 3, none⟩ = some (.slice a2 ks[i].kids.length c2) ∧
    RTo ok w ks[i] (.agg #[.int .i64 ks[i].kind, .string ks[i].cons, .slice a1 ks[i].text.length c1, .slice a2 ks[i].kids.length c2]) := by
  obtain ⟨b, o, e, _, hb, hr⟩ := h.2 (by rintro rfl; simp at hi)
  obtain ⟨v0, v1, v2, v3, h0, h1, h2, h3, hx⟩ := hr.get i hi
  obtain ⟨a1, c1, a2, c2, e2, hk⟩ := hx.open
  simp only [Value.agg.injEq, Array.mk.injEq, List.cons.injEq, and_true] at e2
  obtain ⟨rfl, rfl, rfl, rfl⟩ := e2
  exact ⟨b, o, a1, c1, a2, c2, e, hb, h0, h1, h2, h3, hx⟩
theorem RK.get {w : World} {a : Option Addr} {ks : List Tm} (h : RK w a ks) (i : Nat) (hi : i < ks.length) : ∃ b o a1 c1 a2 c2, a = some ⟨b, o, none⟩ ∧ b < w.heap.size ∧
    w.cell? ⟨b, o + i * 4, none⟩ = some (.int .i64 ks[i].kind) ∧ w.cell? ⟨b, o + i * 4 + 1, none⟩ = some (.string ks[i].cons) ∧ w.cell? ⟨b, o + i * 4 + 2, none⟩ = some (.slice a1 ks[i].text.length c1) ∧ w.cell? ⟨b, o + i * 4 + 3, none⟩ = some (.slice a2 ks[i].kids.length c2) ∧
    RT w ks[i] (.agg #[.int .i64 ks[i].kind, .string ks[i].cons, .slice a1 ks[i].text.length c1, .slice a2 ks[i].kids.length c2]) := RKo.get h i hi
theorem RB.get {w : World} {a : Option Addr} {bs : List UInt8} (h : RB w a bs) (hn : bs ≠ []) : ∃ b o, a = some ⟨b, o, none⟩ ∧ b < w.heap.size ∧ RBs w b o bs := by
  obtain ⟨b, o, e, _, hb, hr⟩ := h.2 hn
  exact ⟨b, o, e, hb, hr⟩

/-- Old cells and old marks, by number. -/
theorem bcell {W w1 : World} (hb : Below W.heap.size W w1) : (∀ b o, b < W.heap.size → w1.cell? ⟨b, o, none⟩ = W.cell? ⟨b, o, none⟩) ∧ (∀ b o, b < W.heap.size → w1.frozen? ⟨b, o, none⟩ = W.frozen? ⟨b, o, none⟩) :=
  ⟨fun b o h => hb.cell (p := ⟨b, o, none⟩) h, fun b o h => hb.frozen (p := ⟨b, o, none⟩) h⟩


theorem Keep.refl (ok : Nat → Prop) (w : World) : Keep ok w w := ⟨Nat.le_refl _, fun _ _ _ => rfl⟩
theorem Keep.trans {ok : Nat → Prop} {a b c : World} (h : Keep ok a b) (k : Keep ok b c) : Keep ok a c :=
  ⟨Nat.le_trans h.size k.size, fun i ho hi => (k.block i ho (Nat.lt_of_lt_of_le hi h.size)).trans (h.block i ho hi)⟩
theorem Keep.setS {ok : Nat → Prop} {a w : World} (h : Keep ok a w) {b i : Nat} {v : Value} (hb : ¬ ok b) : Keep ok a (w.setCell ⟨b, i, none⟩ v) :=
  h.trans ⟨by simp [World.setCell], fun k hk _ => Below.heap_setCell _ _ _ _ (by rintro rfl; exact hb hk)⟩
theorem Keep.allocS {ok : Nat → Prop} {a w : World} (h : Keep ok a w) {o : Obj} : Keep ok a (w.alloc o) :=
  h.trans ⟨by simp, fun k _ hk => Below.heap_alloc _ _ _ hk⟩
theorem Keep.drewS {ok : Nat → Prop} {a w : World} (h : Keep ok a w) : Keep ok a w.drew := ⟨h.size, h.block⟩
theorem Keep.drewNS {ok : Nat → Prop} {a w : World} (h : Keep ok a w) {n : Nat} : Keep ok a (w.drewN n) := ⟨h.size, h.block⟩
theorem size_setCell (w : World) (p : Addr) (v : Value) : (w.setCell p v).heap.size = w.heap.size := by simp [World.setCell]

/-- A whole block. -/
def Blk (w : World) (k : Nat) (c : Array Value) (t : TypeId) : Prop := w.heap[k]? = some (.cells c t (0, 0))
theorem Blk.cell {w : World} {k : Nat} {c : Array Value} {t : TypeId} (h : Blk w k c t) (i : Nat) : w.cell? ⟨k, i, none⟩ = c[i]? := by
  unfold Blk at h
  simp [World.cell?, h]
theorem Blk.free {w : World} {k : Nat} {c : Array Value} {t : TypeId} (h : Blk w k c t) (i : Nat) : w.frozen? ⟨k, i, none⟩ = false := by
  unfold Blk at h
  simp [World.frozen?, h]
theorem Blk.lt {w : World} {k : Nat} {c : Array Value} {t : TypeId} (h : Blk w k c t) : k < w.heap.size := (Array.getElem?_eq_some_iff.1 h).1
theorem Blk.new (w : World) (c : Array Value) (t : TypeId) : Blk (w.alloc (.cells c t)) w.heap.size c t := by
  show (w.heap.push _)[w.heap.size]? = _
  simp
theorem Blk.alloc {w : World} {k : Nat} {c : Array Value} {t : TypeId} (h : Blk w k c t) (o : Obj) : Blk (w.alloc o) k c t :=
  (Below.heap_alloc w o k h.lt).trans h
theorem Blk.keep {ok : Nat → Prop} {w w' : World} {k : Nat} {c : Array Value} {t : TypeId} (h : Blk w k c t) (hk : Keep ok w w') (ho : ok k) : Blk w' k c t := (hk.block k ho h.lt).trans h
theorem Blk.below {w w' : World} {k : Nat} {c : Array Value} {t : TypeId} (h : Blk w k c t) (hb : Below w.heap.size w w') : Blk w' k c t := (hb.block k h.lt).trans h
theorem Blk.ne {w : World} {k k' : Nat} {c c' : Array Value} {t t' : TypeId} (h : Blk w k c t) (h' : Blk w k' c' t') (ht : t ≠ t') : k ≠ k' := by
  rintro rfl
  unfold Blk at h h'
  rw [h] at h'
  injection h' with h'
  injection h' with _ h'
  exact ht h'
theorem Blk.own_ne {w : World} {k : Nat} {c : Array Value} {t : TypeId} (h : Blk w k c t) {B : Nat} {e : TypeId} {size n : Nat} {v : Value} {xs : List Value} (ho : w.ownsRow B e size v n xs) (ht : t ≠ e) : some k ≠ v.ownBlock := by
  rcases ho.2 with ⟨rfl, _⟩ | ⟨g, cap, cur, rfl, _, hg, _⟩
  · simp [Value.ownBlock]
  · intro e1
    simp only [Value.ownBlock, Option.some.injEq] at e1
    exact Blk.ne h (k' := g) hg ht e1
theorem Blk.grown {w w' : World} {k : Nat} {c : Array Value} {t : TypeId} (h : Blk w k c t) {row : Option Nat} (hg : w.grownBy w' row) (hne : some k ≠ row) : Blk w' k c t := (hg.block k h.lt hne).trans h
end Go.Proofs.Ytfndldfnlncabaa
