/- What it is for a value to read as a document, in a world; and that such readings last while the call makes memory of its own. -/
import Derived.Test.YtcmhlfnmjpmjhaaRows
import Derived.WalkKit
import Derived.WalkSpells
import Derived.WalkLawsBesides
namespace Go.Proofs.Ytcmhlfnmjpmjhaa
set_option linter.unusedVariables false
set_option linter.unusedSimpArgs false
set_option linter.unnecessarySimpa false
set_option linter.deprecated false
open Go.RowKit

/-- A fact kept from the walk. -/
theorem hide {p : Prop} (h : p) : Hid p := h

theorem below_next {w wr w' : World} (h : Below w.heap.size w wr) (k : Below wr.heap.size wr w') : Below w.heap.size w w' := h.trans (k.mono h.size)
theorem add_mk (b o n : Nat) : (⟨b, o, none⟩ : Addr).add n = ⟨b, o + n, none⟩ := by
  unfold Addr.add
  split
  · rename_i h; subst h; rfl
  · rfl

/-- A document. -/
inductive Dc where
  | mk (k : Int) (t : ByteArray) (n : Int) (ks : List Dc)
def Dc.kind : Dc → Int | .mk k _ _ _ => k
def Dc.text : Dc → ByteArray | .mk _ t _ _ => t
def Dc.num : Dc → Int | .mk _ _ n _ => n
def Dc.kids : Dc → List Dc | .mk _ _ _ ks => ks
mutual
/-- Of how many documents. -/
def cnt : Dc → Nat
  | .mk _ _ _ ks => 1 + cntL ks
def cntL : List Dc → Nat
  | [] => 0
  | x :: xs => cnt x + cntL xs
end
mutual
/-- Of how many bytes its texts are. -/
def vol : Dc → Nat
  | .mk _ t _ ks => t.size + volL ks
def volL : List Dc → Nat
  | [] => 0
  | x :: xs => vol x + volL xs
end
mutual
/-- How deep. -/
def dep : Dc → Nat
  | .mk _ _ _ ks => depL ks + 1
def depL : List Dc → Nat
  | [] => 0
  | x :: xs => max (dep x) (depL xs)
end
theorem Dc.induct {P : Dc → Prop} (h : ∀ k t n ks, (∀ x ∈ ks, P x) → P (.mk k t n ks)) : ∀ d, P d := by
  intro d
  exact Dc.rec (motive_1 := P) (motive_2 := fun ks => ∀ x ∈ ks, P x) (fun k t n ks ih => h k t n ks ih) (fun x hx => by cases hx) (fun x xs hx hxs y hy => by
    rcases List.mem_cons.1 hy with rfl | hy
    · exact hx
    · exact hxs y hy) d
theorem cnt_pos (d : Dc) : 1 ≤ cnt d := by cases d; rw [cnt]; omega
theorem cntL_mem {x : Dc} : ∀ {ks : List Dc}, x ∈ ks → cnt x ≤ cntL ks
  | [], h => by cases h
  | y :: ys, h => by
    rw [cntL]
    rcases List.mem_cons.1 h with rfl | h
    · omega
    · have := cntL_mem h; omega
theorem volL_mem {x : Dc} : ∀ {ks : List Dc}, x ∈ ks → vol x ≤ volL ks
  | [], h => by cases h
  | y :: ys, h => by
    rw [volL]
    rcases List.mem_cons.1 h with rfl | h
    · omega
    · have := volL_mem h; omega
theorem len_cntL : ∀ (ks : List Dc), ks.length ≤ cntL ks
  | [] => by simp
  | x :: xs => by rw [cntL, List.length_cons]; have := len_cntL xs; have := cnt_pos x; omega
theorem cnt_kids (d : Dc) : cnt d = 1 + cntL d.kids := by cases d; rw [cnt]; rfl
theorem vol_kids (d : Dc) : vol d = d.text.size + volL d.kids := by cases d; rw [vol]; rfl

mutual
/-- A value reads as a document; all blocks are as told. -/
def RDo (ok : Nat → Prop) (w : World) : Dc → Value → Prop
  | .mk k t n ks, v => ∃ a c, v = .agg #[.int .i64 k, .string t, .int .i64 n, .slice a ks.length c] ∧ (-9223372036854775808 ≤ k ∧ k ≤ 9223372036854775807) ∧ t.size ≤ 140737488351232 ∧ (-9223372036854775808 ≤ n ∧ n ≤ 9223372036854775807) ∧
      ks.length ≤ 140737488351232 ∧ (ks ≠ [] → ∃ b o, a = some ⟨b, o, none⟩ ∧ ok b ∧ b < w.heap.size ∧ RDos ok w b o ks)
/-- Documents lie one behind the other. -/
def RDos (ok : Nat → Prop) (w : World) (b : Nat) : Nat → List Dc → Prop
  | _, [] => True
  | o, x :: xs => (∃ v0 v1 v2 v3, w.cell? ⟨b, o, none⟩ = some v0 ∧ w.cell? ⟨b, o + 1, none⟩ = some v1 ∧ w.cell? ⟨b, o + 2, none⟩ = some v2 ∧ w.cell? ⟨b, o + 3, none⟩ = some v3 ∧ RDo ok w x (.agg #[v0, v1, v2, v3])) ∧ RDos ok w b (o + 4) xs
end
/-- A slice of documents reads as a list. -/
def RKo (ok : Nat → Prop) (w : World) (a : Option Addr) (ks : List Dc) : Prop := ks.length ≤ 140737488351232 ∧ (ks ≠ [] → ∃ b o, a = some ⟨b, o, none⟩ ∧ ok b ∧ b < w.heap.size ∧ RDos ok w b o ks)
/-- Wherever it lies. -/
def RD (w : World) (d : Dc) (v : Value) : Prop := RDo (fun _ => True) w d v
def RK (w : World) (a : Option Addr) (ks : List Dc) : Prop := RKo (fun _ => True) w a ks

/-- The blocks that are so stand as they stood. -/
structure Keep (ok : Nat → Prop) (w w' : World) : Prop where
  size : w.heap.size ≤ w'.heap.size
  block : ∀ k, ok k → k < w.heap.size → w'.heap[k]? = w.heap[k]?
theorem Keep.cell {ok : Nat → Prop} {w w' : World} (h : Keep ok w w') {b : Nat} (ho : ok b) (hb : b < w.heap.size) (o : Nat) : w'.cell? ⟨b, o, none⟩ = w.cell? ⟨b, o, none⟩ :=
  World.cell?_of_block (w := w) (h.block b ho hb)
theorem keep_below {ok : Nat → Prop} {w w' : World} (h : Below w.heap.size w w') : Keep ok w w' := ⟨h.size, fun k _ hk => h.block k hk⟩
mutual
theorem RDo.keep {ok : Nat → Prop} {w w' : World} (hk : Keep ok w w') : ∀ {d : Dc} {v : Value}, RDo ok w d v → RDo ok w' d v
  | .mk k t n ks, v, h => by
    rw [RDo] at h ⊢
    obtain ⟨a, c, e, h1, h2, h3, h4, h5⟩ := h
    exact ⟨a, c, e, h1, h2, h3, h4, fun hn => by
      obtain ⟨b, o, e2, ho, hb2, hr2⟩ := h5 hn
      exact ⟨b, o, e2, ho, Nat.lt_of_lt_of_le hb2 hk.size, RDos.keep hk ho hb2 hr2⟩⟩
theorem RDos.keep {ok : Nat → Prop} {w w' : World} (hk : Keep ok w w') {b : Nat} (ho : ok b) (hb : b < w.heap.size) : ∀ {ks : List Dc} {o : Nat}, RDos ok w b o ks → RDos ok w' b o ks
  | [], _, _ => by rw [RDos]; trivial
  | x :: xs, o, h => by
    rw [RDos] at h ⊢
    obtain ⟨⟨v0, v1, v2, v3, h0, h1, h2, h3, hx⟩, hr⟩ := h
    exact ⟨⟨v0, v1, v2, v3, (hk.cell ho hb _).trans h0, (hk.cell ho hb _).trans h1, (hk.cell ho hb _).trans h2, (hk.cell ho hb _).trans h3, RDo.keep hk hx⟩, RDos.keep hk ho hb hr⟩
end
mutual
theorem RDo.weak {ok ok' : Nat → Prop} {w : World} (hk : ∀ k, ok k → ok' k) : ∀ {d : Dc} {v : Value}, RDo ok w d v → RDo ok' w d v
  | .mk k t n ks, v, h => by
    rw [RDo] at h ⊢
    obtain ⟨a, c, e, h1, h2, h3, h4, h5⟩ := h
    exact ⟨a, c, e, h1, h2, h3, h4, fun hn => by
      obtain ⟨b, o, e2, ho, hb2, hr2⟩ := h5 hn
      exact ⟨b, o, e2, hk b ho, hb2, RDos.weak hk hr2⟩⟩
theorem RDos.weak {ok ok' : Nat → Prop} {w : World} (hk : ∀ k, ok k → ok' k) {b : Nat} : ∀ {ks : List Dc} {o : Nat}, RDos ok w b o ks → RDos ok' w b o ks
  | [], _, _ => by rw [RDos]; trivial
  | x :: xs, o, h => by
    rw [RDos] at h ⊢
    obtain ⟨⟨v0, v1, v2, v3, h0, h1, h2, h3, hx⟩, hr⟩ := h
    exact ⟨⟨v0, v1, v2, v3, h0, h1, h2, h3, RDo.weak hk hx⟩, RDos.weak hk hr⟩
end
mutual
theorem RDo.low {w : World} : ∀ {d : Dc} {v : Value}, RD w d v → RDo (fun k => k < w.heap.size) w d v
  | .mk k t n ks, v, h => by
    unfold RD at h
    rw [RDo] at h ⊢
    obtain ⟨a, c, e, h1, h2, h3, h4, h5⟩ := h
    exact ⟨a, c, e, h1, h2, h3, h4, fun hn => by
      obtain ⟨b, o, e2, ho, hb2, hr2⟩ := h5 hn
      exact ⟨b, o, e2, hb2, hb2, RDos.low hr2⟩⟩
theorem RDos.low {w : World} {b : Nat} : ∀ {ks : List Dc} {o : Nat}, RDos (fun _ => True) w b o ks → RDos (fun k => k < w.heap.size) w b o ks
  | [], _, _ => by rw [RDos]; trivial
  | x :: xs, o, h => by
    rw [RDos] at h ⊢
    obtain ⟨⟨v0, v1, v2, v3, h0, h1, h2, h3, hx⟩, hr⟩ := h
    exact ⟨⟨v0, v1, v2, v3, h0, h1, h2, h3, RDo.low hx⟩, RDos.low hr⟩
end
theorem RDo.to {ok : Nat → Prop} {w : World} {d : Dc} {v : Value} (h : RDo ok w d v) : RD w d v := RDo.weak (fun _ _ => trivial) h
theorem RDo.step {ok : Nat → Prop} {w w' : World} {d : Dc} {v : Value} (h : RDo ok w d v) (hw : Below w.heap.size w w') : RDo ok w' d v := RDo.keep (keep_below hw) h
theorem RD.below {w w' : World} (hw : Below w.heap.size w w') {d : Dc} {v : Value} (h : RD w d v) : RD w' d v := RDo.keep (keep_below hw) h
theorem RKo.step {ok : Nat → Prop} {w w' : World} {a : Option Addr} {ks : List Dc} (h : RKo ok w a ks) (hw : Below w.heap.size w w') : RKo ok w' a ks :=
  ⟨h.1, fun hn => by
    obtain ⟨b, o, e, ho, hb, hr⟩ := h.2 hn
    exact ⟨b, o, e, ho, Nat.lt_of_lt_of_le hb hw.size, RDos.keep (keep_below hw) ho hb hr⟩⟩
theorem RDos.get {ok : Nat → Prop} {w : World} {b : Nat} : ∀ {ks : List Dc} {o : Nat}, RDos ok w b o ks → ∀ i (hi : i < ks.length), ∃ v0 v1 v2 v3, w.cell? ⟨b, o + i * 4, none⟩ = some v0 ∧ w.cell? ⟨b, o + i * 4 + 1, none⟩ = some v1 ∧ w.cell? ⟨b, o + i * 4 + 2, none⟩ = some v2 ∧ w.cell? ⟨b, o + i * 4 + 3, none⟩ = some v3 ∧ RDo ok w ks[i] (.agg #[v0, v1, v2, v3])
  | [], _, _, i, hi => by simp at hi
  | x :: xs, o, h, 0, _ => by
    rw [RDos] at h
    simpa using h.1
  | x :: xs, o, h, i + 1, hi => by
    rw [RDos] at h
    have := RDos.get h.2 i (by simpa using hi)
    simpa [Nat.add_mul, Nat.add_assoc, Nat.add_comm 4] using this
theorem RDos.of {ok : Nat → Prop} {w : World} {b : Nat} : ∀ {ks : List Dc} {o : Nat}, (∀ i (hi : i < ks.length), ∃ v0 v1 v2 v3, w.cell? ⟨b, o + i * 4, none⟩ = some v0 ∧ w.cell? ⟨b, o + i * 4 + 1, none⟩ = some v1 ∧ w.cell? ⟨b, o + i * 4 + 2, none⟩ = some v2 ∧ w.cell? ⟨b, o + i * 4 + 3, none⟩ = some v3 ∧ RDo ok w ks[i] (.agg #[v0, v1, v2, v3])) → RDos ok w b o ks
  | [], _, _ => by rw [RDos]; trivial
  | x :: xs, o, h => by
    rw [RDos]
    refine ⟨?_, RDos.of fun i hi => ?_⟩
    · have h0 := h 0 (by simp)
      simp only [Nat.zero_mul, Nat.add_zero] at h0
      exact h0
    have := h (i + 1) (by simpa using hi)
    simpa [Nat.add_mul, Nat.add_assoc, Nat.add_comm 4] using this
/-- A document that reads, laid open. -/
theorem RDo.open {ok : Nat → Prop} {w : World} {d : Dc} {v : Value} (h : RDo ok w d v) : ∃ a c, v = .agg #[.int .i64 d.kind, .string d.text, .int .i64 d.num, .slice a d.kids.length c] ∧ (-9223372036854775808 ≤ d.kind ∧ d.kind ≤ 9223372036854775807) ∧ d.text.size ≤ 140737488351232 ∧ (-9223372036854775808 ≤ d.num ∧ d.num ≤ 9223372036854775807) ∧ RKo ok w a d.kids := by
  cases d
  rw [RDo] at h
  obtain ⟨a, c, e, h1, h2, h3, h4, h5⟩ := h
  exact ⟨a, c, e, h1, h2, h3, h4, h5⟩
theorem RD.open {w : World} {d : Dc} {v : Value} (h : RD w d v) : ∃ a c, v = .agg #[.int .i64 d.kind, .string d.text, .int .i64 d.num, .slice a d.kids.length c] ∧ (-9223372036854775808 ≤ d.kind ∧ d.kind ≤ 9223372036854775807) ∧ d.text.size ≤ 140737488351232 ∧ (-9223372036854775808 ≤ d.num ∧ d.num ≤ 9223372036854775807) ∧ RK w a d.kids := RDo.open h
theorem RDo.shut {ok : Nat → Prop} {w : World} {k n : Int} {t : ByteArray} {ks : List Dc} {a : Option Addr} {c m : Nat} (hk : -9223372036854775808 ≤ k ∧ k ≤ 9223372036854775807) (ht : t.size ≤ 140737488351232) (hn : -9223372036854775808 ≤ n ∧ n ≤ 9223372036854775807) (hr : RKo ok w a ks) (e : m = ks.length) :
    RDo ok w (.mk k t n ks) (.agg #[.int .i64 k, .string t, .int .i64 n, .slice a m c]) := by
  subst e
  rw [RDo]
  exact ⟨a, c, rfl, hk, ht, hn, hr.1, hr.2⟩
theorem RKo.nil {ok : Nat → Prop} {w : World} {a : Option Addr} : RKo ok w a [] := ⟨by simp, fun h => absurd rfl h⟩
/-- An element of a slice of documents: its cells, and its reading, laid open. -/
theorem RKo.get {ok : Nat → Prop} {w : World} {a : Option Addr} {ks : List Dc} (h : RKo ok w a ks) (i : Nat) (hi : i < ks.length) : ∃ b o a1 c1, a = some ⟨b, o, none⟩ ∧ b < w.heap.size ∧
    w.cell? ⟨b, o + i * 4, none⟩ = some (.int .i64 ks[i].kind) ∧ w.cell? ⟨b, o + i * 4 + 1, none⟩ = some (.string ks[i].text) ∧ w.cell? ⟨b, o + i * 4 + 2, none⟩ = some (.int .i64 ks[i].num) ∧ w.cell? ⟨b, o + i * 4 + 3, none⟩ = some (.slice a1 ks[i].kids.length c1) ∧
    RDo ok w ks[i] (.agg #[.int .i64 ks[i].kind, .string ks[i].text, .int .i64 ks[i].num, .slice a1 ks[i].kids.length c1]) := by
  obtain ⟨b, o, e, _, hb, hr⟩ := h.2 (by rintro rfl; simp at hi)
  obtain ⟨v0, v1, v2, v3, h0, h1, h2, h3, hx⟩ := hr.get i hi
  obtain ⟨a1, c1, e2, hk⟩ := hx.open
  simp only [Value.agg.injEq, Array.mk.injEq, List.cons.injEq, and_true] at e2
  obtain ⟨rfl, rfl, rfl, rfl⟩ := e2
  exact ⟨b, o, a1, c1, e, hb, h0, h1, h2, h3, hx⟩
theorem RK.get {w : World} {a : Option Addr} {ks : List Dc} (h : RK w a ks) (i : Nat) (hi : i < ks.length) : ∃ b o a1 c1, a = some ⟨b, o, none⟩ ∧ b < w.heap.size ∧
    w.cell? ⟨b, o + i * 4, none⟩ = some (.int .i64 ks[i].kind) ∧ w.cell? ⟨b, o + i * 4 + 1, none⟩ = some (.string ks[i].text) ∧ w.cell? ⟨b, o + i * 4 + 2, none⟩ = some (.int .i64 ks[i].num) ∧ w.cell? ⟨b, o + i * 4 + 3, none⟩ = some (.slice a1 ks[i].kids.length c1) ∧
    RD w ks[i] (.agg #[.int .i64 ks[i].kind, .string ks[i].text, .int .i64 ks[i].num, .slice a1 ks[i].kids.length c1]) := RKo.get h i hi

/-- Old cells and old marks, by number. -/
theorem bcell {W w1 : World} (hb : Below W.heap.size W w1) : (∀ b o, b < W.heap.size → w1.cell? ⟨b, o, none⟩ = W.cell? ⟨b, o, none⟩) ∧ (∀ b o, b < W.heap.size → w1.frozen? ⟨b, o, none⟩ = W.frozen? ⟨b, o, none⟩) :=
  ⟨fun b o h => hb.cell (p := ⟨b, o, none⟩) h, fun b o h => hb.frozen (p := ⟨b, o, none⟩) h⟩


theorem Keep.refl (ok : Nat → Prop) (w : World) : Keep ok w w := ⟨Nat.le_refl _, fun _ _ _ => rfl⟩
theorem Keep.trans {ok : Nat → Prop} {a b c : World} (h : Keep ok a b) (k : Keep ok b c) : Keep ok a c :=
  ⟨Nat.le_trans h.size k.size, fun i ho hi => (k.block i ho (Nat.lt_of_lt_of_le hi h.size)).trans (h.block i ho hi)⟩
theorem Keep.setS {ok : Nat → Prop} {a w : World} (h : Keep ok a w) {b i : Nat} {v : Value} (hb : ¬ ok b) : Keep ok a (w.setCell ⟨b, i, none⟩ v) :=
  h.trans ⟨by simp [World.setCell], fun k hk _ => Below.heap_setCell _ _ _ _ (by rintro rfl; exact hb hk)⟩
theorem Keep.allocS {ok : Nat → Prop} {a w : World} (h : Keep ok a w) {o : Obj} : Keep ok a (w.alloc o) :=
  h.trans ⟨by simp, fun k _ hk => Below.heap_alloc _ _ _ hk⟩
theorem Keep.drewS {ok : Nat → Prop} {a w : World} (h : Keep ok a w) : Keep ok a w.drew := ⟨h.size, h.block⟩
theorem Keep.drewNS {ok : Nat → Prop} {a w : World} (h : Keep ok a w) {n : Nat} : Keep ok a (w.drewN n) := ⟨h.size, h.block⟩
theorem size_setCell (w : World) (p : Addr) (v : Value) : (w.setCell p v).heap.size = w.heap.size := by simp [World.setCell]

/-- A whole block. -/
def Blk (w : World) (k : Nat) (c : Array Value) (t : TypeId) : Prop := w.heap[k]? = some (.cells c t (0, 0))
theorem Blk.cell {w : World} {k : Nat} {c : Array Value} {t : TypeId} (h : Blk w k c t) (i : Nat) : w.cell? ⟨k, i, none⟩ = c[i]? := by
  unfold Blk at h
  simp [World.cell?, h]
theorem Blk.free {w : World} {k : Nat} {c : Array Value} {t : TypeId} (h : Blk w k c t) (i : Nat) : w.frozen? ⟨k, i, none⟩ = false := by
  unfold Blk at h
  simp [World.frozen?, h]
theorem Blk.lt {w : World} {k : Nat} {c : Array Value} {t : TypeId} (h : Blk w k c t) : k < w.heap.size := (Array.getElem?_eq_some_iff.1 h).1
theorem Blk.new (w : World) (c : Array Value) (t : TypeId) : Blk (w.alloc (.cells c t)) w.heap.size c t := by
  show (w.heap.push _)[w.heap.size]? = _
  simp
theorem Blk.alloc {w : World} {k : Nat} {c : Array Value} {t : TypeId} (h : Blk w k c t) (o : Obj) : Blk (w.alloc o) k c t :=
  (Below.heap_alloc w o k h.lt).trans h
theorem Blk.keep {ok : Nat → Prop} {w w' : World} {k : Nat} {c : Array Value} {t : TypeId} (h : Blk w k c t) (hk : Keep ok w w') (ho : ok k) : Blk w' k c t := (hk.block k ho h.lt).trans h
theorem Blk.below {w w' : World} {k : Nat} {c : Array Value} {t : TypeId} (h : Blk w k c t) (hb : Below w.heap.size w w') : Blk w' k c t := (hb.block k h.lt).trans h
theorem Blk.ne {w : World} {k k' : Nat} {c c' : Array Value} {t t' : TypeId} (h : Blk w k c t) (h' : Blk w k' c' t') (ht : t ≠ t') : k ≠ k' := by
  rintro rfl
  unfold Blk at h h'
  rw [h] at h'
  injection h' with h'
  injection h' with _ h'
  exact ht h'
theorem Blk.own_ne {w : World} {k : Nat} {c : Array Value} {t : TypeId} (h : Blk w k c t) {B : Nat} {e : TypeId} {size n : Nat} {v : Value} {xs : List Value} (ho : w.ownsRow B e size v n xs) (ht : t ≠ e) : some k ≠ v.ownBlock := by
  rcases ho.2 with ⟨rfl, _⟩ | ⟨g, cap, cur, rfl, _, hg, _⟩
  · simp [Value.ownBlock]
  · intro e1
    simp only [Value.ownBlock, Option.some.injEq] at e1
    exact Blk.ne h (k' := g) hg ht e1
theorem Blk.grown {w w' : World} {k : Nat} {c : Array Value} {t : TypeId} (h : Blk w k c t) {row : Option Nat} (hg : w.grownBy w' row) (hne : some k ≠ row) : Blk w' k c t := (hg.block k h.lt hne).trans h
end Go.Proofs.Ytcmhlfnmjpmjhaa
