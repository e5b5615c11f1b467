/- The walk of terms.copied: a term in memory of its own. -/
import Derived.Test.YtfndldfnlncabaaClone
import Derived.Test.YtfndldfnlncabaaTree
import Derived.Test.YtfndldfnlncabaaTermA
import Derived.Deep.LoopGhost
import Derived.Deep.RegionWith
set_option linter.unusedVariables false
set_option linter.unusedSimpArgs false
set_option linter.unnecessarySimpa false
set_option linter.deprecated false
namespace Go.Proofs.Ytfndldfnlncabaa
open Go.RowKit

/-- The contract of copied, at a term. -/
def CpP (w : World) (T : Tm) (e : Ending) (w' : World) : Prop := (∃ v', e = .returned v' ∧ Tree w' T (fun k => w.heap.size ≤ k) v') ∧ Below w.heap.size w w'
def CpOk (T : Tm) : Prop := cnt T ≤ 1000000 → ∀ (v : Value) (w : World), RT w T v → Calls Try.prog 47 #[v] w (CpP w T)

mutual
theorem RTo.low {w : World} : ∀ {T : Tm} {v : Value}, RT w T v → RTo (fun k => k < w.heap.size) w T v
  | .mk k c t ks, v, h => by
    unfold RT at h
    rw [RTo] at h ⊢
    obtain ⟨a1, c1, a2, c2, e, h1, h2, h3, h4, h5⟩ := h
    refine ⟨a1, c1, a2, c2, e, h1, h2, ⟨h3.1, fun hn => ?_⟩, h4, fun hn => ?_⟩
    · obtain ⟨b, o, e, _, hb, hr⟩ := h3.2 hn
      exact ⟨b, o, e, hb, hb, hr⟩
    · obtain ⟨b, o, e, _, hb, hr⟩ := h5 hn
      exact ⟨b, o, e, hb, hb, RTos.low hr⟩
theorem RTos.low {w : World} {b : Nat} : ∀ {ks : List Tm} {o : Nat}, RTos (fun _ => True) w b o ks → RTos (fun k => k < w.heap.size) w b o ks
  | [], _, _ => by rw [RTos]; trivial
  | x :: xs, o, h => by
    rw [RTos] at h ⊢
    obtain ⟨⟨v0, v1, v2, v3, h0, h1, h2, h3, hx⟩, hr⟩ := h
    exact ⟨⟨v0, v1, v2, v3, h0, h1, h2, h3, RTo.low hx⟩, RTos.low hr⟩
end
theorem RKo.low {w : World} {a : Option Addr} {ks : List Tm} (h : RK w a ks) : RKo (fun k => k < w.heap.size) w a ks :=
  ⟨h.1, fun hn => by
    obtain ⟨b, o, e, _, hb, hr⟩ := h.2 hn
    exact ⟨b, o, e, hb, hb, RTos.low hr⟩⟩
theorem keep_low {w w' : World} (h : Below w.heap.size w w') : Keep (fun k => k < w.heap.size) w w' := ⟨h.size, fun k hk _ => h.block k hk⟩
theorem keep_on {B : Nat} {w w1 w2 : World} (h1 : Below B w w1) (h2 : Below B w w2) (hs : w1.heap.size ≤ w2.heap.size) : Keep (fun k => k < B) w1 w2 :=
  ⟨hs, fun k hk _ => (h2.block k hk).trans (h1.block k hk).symm⟩
theorem cntL_len : ∀ ks : List Tm, ks.length ≤ cntL ks
  | [] => by simp
  | x :: xs => by rw [cntL]; have := cnt_pos x; have := cntL_len xs; simp; omega

structure CpRel (w : World) (A : Array Value) (tx : List UInt8) (ks : List Tm) (a1 : Option Addr) (g k : Nat) (wr : World) : Prop where
  below : Below w.heap.size w wr
  box : Blk wr w.heap.size A 25
  res : Blk wr (w.heap.size + 1) #[.int .i64 0, .string emptyB, .slice none 0 0, .slice none 0 0] 25
  text : TBo (fun k => w.heap.size + 2 ≤ k ∧ k ≠ g) wr a1 tx
  tblk : ∀ j, some j = a1.map (·.block) → w.heap.size + 2 ≤ j ∧ j < wr.heap.size
  row : ks ≠ [] → w.heap.size + 2 ≤ g ∧ some g ≠ a1.map (·.block) ∧ ∃ cur, wr.heap[g]? = some (.cells cur 25 (0, 0)) ∧ ks.length * 4 ≤ cur.size
  done : Trees wr g 0 (ks.take k) (fun k => (w.heap.size + 2 ≤ k ∧ k ≠ g ∧ some k ≠ a1.map (·.block)) ∧ k < wr.heap.size)
  rest : ∀ i (h : i < ks.length), k ≤ i → ∃ v0 v1 v2 v3, wr.cell? ⟨g, i * 4, none⟩ = some v0 ∧ wr.cell? ⟨g, i * 4 + 1, none⟩ = some v1 ∧ wr.cell? ⟨g, i * 4 + 2, none⟩ = some v2 ∧ wr.cell? ⟨g, i * 4 + 3, none⟩ = some v3 ∧ RTo (fun k => k < w.heap.size) wr ks[i] (.agg #[v0, v1, v2, v3])
  le : k ≤ ks.length

theorem Blk.put2 {w : World} {k : Nat} {a b c d v : Value} {t : TypeId} (h : Blk w k #[a, b, c, d] t) : Blk (w.setCell ⟨k, 2, none⟩ v) k #[a, b, v, d] t := by
  unfold Blk at *
  simp only [World.setCell, Array.getElem?_modify, h]
  simp
theorem Blk.put3 {w : World} {k : Nat} {a b c d v : Value} {t : TypeId} (h : Blk w k #[a, b, c, d] t) : Blk (w.setCell ⟨k, 3, none⟩ v) k #[a, b, c, v] t := by
  unfold Blk at *
  simp only [World.setCell, Array.getElem?_modify, h]
  simp
theorem cp_cells {wr w5 : World} {g n k : Nat} {cur : Array Value} {v0 v1 v2 v3 : Value} (hcur : wr.heap[g]? = some (.cells cur 25 (0, 0))) (hs : n * 4 ≤ cur.size) (hk : k < n) (hb : Below wr.heap.size wr w5)
    (e0 : wr.cell? ⟨g, k * 4, none⟩ = some v0) (e1 : wr.cell? ⟨g, k * 4 + 1, none⟩ = some v1) (e2 : wr.cell? ⟨g, k * 4 + 2, none⟩ = some v2) (e3 : wr.cell? ⟨g, k * 4 + 3, none⟩ = some v3) :
    w5.cell? ⟨g, k * 4, none⟩ = some v0 ∧ w5.cell? ⟨g, k * 4 + 1, none⟩ = some v1 ∧ w5.cell? ⟨g, k * 4 + 2, none⟩ = some v2 ∧ w5.cell? ⟨g, k * 4 + 3, none⟩ = some v3 ∧
    w5.frozen? ⟨g, k * 4, none⟩ = false ∧ w5.frozen? ⟨g, k * 4 + 1, none⟩ = false ∧ w5.frozen? ⟨g, k * 4 + 2, none⟩ = false ∧ w5.frozen? ⟨g, k * 4 + 3, none⟩ = false := by
  have hlt : g < wr.heap.size := (Array.getElem?_eq_some_iff.1 hcur).1
  have h5 := Blk.below (k := g) (c := cur) (t := 25) hcur hb
  exact ⟨(hb.cell hlt).trans e0, (hb.cell hlt).trans e1, (hb.cell hlt).trans e2, (hb.cell hlt).trans e3, h5.free _, h5.free _, h5.free _, h5.free _⟩
theorem cp_start {w w1 w3 : World} {kd : Int} {cs : ByteArray} {tx : List UInt8} {ks : List Tm} {x2 x3 : Value} {a1 a2 : Option Addr} {c1 c2 n1 n2 : Nat}
    (hb1 : Below ((w.alloc (.cells #[.int .i64 kd, .string cs, x2, x3] 25)).alloc (.cells #[.int .i64 0, .string emptyB, .slice none 0 0, .slice none 0 0] 25)).heap.size ((w.alloc (.cells #[.int .i64 kd, .string cs, x2, x3] 25)).alloc (.cells #[.int .i64 0, .string emptyB, .slice none 0 0, .slice none 0 0] 25)) w1)
    (hrd : TBo (fun k => ((w.alloc (.cells #[.int .i64 kd, .string cs, x2, x3] 25)).alloc (.cells #[.int .i64 0, .string emptyB, .slice none 0 0, .slice none 0 0] 25)).heap.size ≤ k) w1 a1 tx)
    (hbl : ∀ k, some k = a1.map (·.block) → ((w.alloc (.cells #[.int .i64 kd, .string cs, x2, x3] 25)).alloc (.cells #[.int .i64 0, .string emptyB, .slice none 0 0, .slice none 0 0] 25)).heap.size ≤ k ∧ k < w1.heap.size)
    (hb3 : Below (w1.setCell ⟨w.heap.size, 2, none⟩ (.slice a1 n2 c1)).heap.size (w1.setCell ⟨w.heap.size, 2, none⟩ (.slice a1 n2 c1)) w3)
    (hrow : ks ≠ [] → ∃ b cur, a2 = some ⟨b, 0, none⟩ ∧ (w1.setCell ⟨w.heap.size, 2, none⟩ (.slice a1 n2 c1)).heap.size ≤ b ∧ w3.heap[b]? = some (.cells cur 25 (0, 0)) ∧ ks.length * 4 ≤ cur.size ∧
      ∀ i (h : i < ks.length), ∃ v0 v1 v2 v3, w3.cell? ⟨b, i * 4, none⟩ = some v0 ∧ w3.cell? ⟨b, i * 4 + 1, none⟩ = some v1 ∧ w3.cell? ⟨b, i * 4 + 2, none⟩ = some v2 ∧ w3.cell? ⟨b, i * 4 + 3, none⟩ = some v3 ∧ RTo (fun k => k < w.heap.size) (w1.setCell ⟨w.heap.size, 2, none⟩ (.slice a1 n2 c1)) ks[i] (.agg #[v0, v1, v2, v3])) :
    ∃ g, (ks ≠ [] → a2 = some ⟨g, 0, none⟩) ∧ CpRel w #[.int .i64 kd, .string cs, .slice a1 n2 c1, .slice a2 n1 c2] tx ks a1 g 0 (w3.setCell ⟨w.heap.size, 3, none⟩ (.slice a2 n1 c2)) := by
  have hs0 : ((w.alloc (.cells #[.int .i64 kd, .string cs, x2, x3] 25)).alloc (.cells #[.int .i64 0, .string emptyB, .slice none 0 0, .slice none 0 0] 25)).heap.size = w.heap.size + 2 := by simp
  have hB0 : Below w.heap.size w ((w.alloc (.cells #[.int .i64 kd, .string cs, x2, x3] 25)).alloc (.cells #[.int .i64 0, .string emptyB, .slice none 0 0, .slice none 0 0] 25)) := ((Below.refl _ w).alloc (Nat.le_refl _) _).alloc (by simp) _
  have hbox : Blk ((w.alloc (.cells #[.int .i64 kd, .string cs, x2, x3] 25)).alloc (.cells #[.int .i64 0, .string emptyB, .slice none 0 0, .slice none 0 0] 25)) w.heap.size #[.int .i64 kd, .string cs, x2, x3] 25 := (Blk.new w _ _).alloc _
  have hres : Blk ((w.alloc (.cells #[.int .i64 kd, .string cs, x2, x3] 25)).alloc (.cells #[.int .i64 0, .string emptyB, .slice none 0 0, .slice none 0 0] 25)) (w.heap.size + 1) #[.int .i64 0, .string emptyB, .slice none 0 0, .slice none 0 0] 25 := by
    have := Blk.new (w.alloc (.cells #[.int .i64 kd, .string cs, x2, x3] 25)) #[.int .i64 0, .string emptyB, .slice none 0 0, .slice none 0 0] 25
    rw [World.size_alloc] at this
    exact this
  generalize ((w.alloc (.cells #[.int .i64 kd, .string cs, x2, x3] 25)).alloc (.cells #[.int .i64 0, .string emptyB, .slice none 0 0, .slice none 0 0] 25)) = w0 at *
  have hs1 := hb1.size
  have hbox1 := Blk.put2 (hbox.below hb1) (v := .slice a1 n2 c1)
  have hres1 : Blk (w1.setCell ⟨w.heap.size, 2, none⟩ (.slice a1 n2 c1)) (w.heap.size + 1) _ 25 := Blk.setS (hres.below hb1) (by omega)
  have hB2 : Below w.heap.size w (w1.setCell ⟨w.heap.size, 2, none⟩ (.slice a1 n2 c1)) := (hB0.trans (hb1.mono (by omega))).setCell (p := ⟨w.heap.size, 2, none⟩) (Nat.le_refl _) _
  have hsz2 : (w1.setCell ⟨w.heap.size, 2, none⟩ (.slice a1 n2 c1)).heap.size = w1.heap.size := size_setCell _ _ _
  have hk12 : ∀ k, w.heap.size + 2 ≤ k → (w1.setCell ⟨w.heap.size, 2, none⟩ (.slice a1 n2 c1)).heap[k]? = w1.heap[k]? := fun k hk => Below.heap_setCell _ _ _ _ (by show k ≠ w.heap.size; omega)
  generalize w1.setCell ⟨w.heap.size, 2, none⟩ (.slice a1 n2 c1) = w2 at *
  have hs3 := hb3.size
  have hbox3 := Blk.put3 (hbox1.below hb3) (v := .slice a2 n1 c2)
  have hres3 : Blk (w3.setCell ⟨w.heap.size, 3, none⟩ (.slice a2 n1 c2)) (w.heap.size + 1) _ 25 := Blk.setS (hres1.below hb3) (by omega)
  have hB4 : Below w.heap.size w (w3.setCell ⟨w.heap.size, 3, none⟩ (.slice a2 n1 c2)) := (hB2.trans (hb3.mono (by omega))).setCell (p := ⟨w.heap.size, 3, none⟩) (Nat.le_refl _) _
  have hsz4 : (w3.setCell ⟨w.heap.size, 3, none⟩ (.slice a2 n1 c2)).heap.size = w3.heap.size := size_setCell _ _ _
  have hk34 : ∀ k, k ≠ w.heap.size → (w3.setCell ⟨w.heap.size, 3, none⟩ (.slice a2 n1 c2)).heap[k]? = w3.heap[k]? := fun k hk => Below.heap_setCell _ _ _ _ (by show k ≠ w.heap.size; exact hk)
  generalize w3.setCell ⟨w.heap.size, 3, none⟩ (.slice a2 n1 c2) = w4 at *
  have hkeep : Keep (fun k => w.heap.size + 2 ≤ k) w1 w4 := ⟨by omega, fun k hk hlt => (hk34 k (by omega)).trans ((hb3.block k (by omega)).trans (hk12 k hk))⟩
  have htext : TBo (fun k => w.heap.size + 2 ≤ k ∧ k < w1.heap.size) w4 a1 tx := by
    refine ⟨hrd.1, fun hn => ?_⟩
    obtain ⟨b, cur, e, hob, hh, hc⟩ := hrd.2 hn
    have hb := (Array.getElem?_eq_some_iff.1 hh).1
    exact ⟨b, cur, e, ⟨by omega, hb⟩, (hkeep.block b (by show w.heap.size + 2 ≤ b; omega) hb).trans hh, hc⟩
  by_cases hn : ks = []
  · subst hn
    refine ⟨w.heap.size, fun h => absurd rfl h, hB4, hbox3, hres3, htext.weak (fun k hk => ⟨hk.1, by omega⟩), (fun j hj => by have := hbl j hj; omega), fun h => absurd rfl h, by rw [List.take_nil, Trees]; trivial, fun i h => absurd h (by simp), by simp⟩
  · obtain ⟨b, cur, e, hb, hh, hcs, hcells⟩ := hrow hn
    refine ⟨b, fun _ => e, hB4, hbox3, hres3, htext.weak (fun k hk => ⟨hk.1, by omega⟩), (fun j hj => by have := hbl j hj; omega), fun _ => ⟨by omega, fun h => by have := hbl b h; omega, cur, (hk34 b (by omega)).trans hh, hcs⟩, by rw [List.take_zero, Trees]; trivial, fun i h _ => ?_, Nat.zero_le _⟩
    obtain ⟨v0, v1, v2, v3, e0, e1, e2, e3, hT⟩ := hcells i h
    have hc : ∀ o, w4.cell? ⟨b, o, none⟩ = w3.cell? ⟨b, o, none⟩ := fun o => World.cell?_of_block (w := w3) (hk34 b (by omega))
    exact ⟨v0, v1, v2, v3, (hc _).trans e0, (hc _).trans e1, (hc _).trans e2, (hc _).trans e3, RTo.keep (keep_on hB2 hB4 (by omega)) hT⟩

mutual
theorem Tree.low {w : World} : ∀ {T : Tm} {P : Nat → Prop} {v : Value}, Tree w T P v → Tree w T (fun k => P k ∧ k < w.heap.size) v
  | .mk k c t ks, P, v, h => by
    rw [Tree] at h ⊢
    obtain ⟨a1, c1, a2, c2, e, h1, h2, h3, h4, h5⟩ := h
    refine ⟨a1, c1, a2, c2, e, h1, h2, ⟨h3.1, fun hn => ?_⟩, h4, fun hn => ?_⟩
    · obtain ⟨b, cur, e, hp, hh, hr⟩ := h3.2 hn
      exact ⟨b, cur, e, ⟨hp, (Array.getElem?_eq_some_iff.1 hh).1⟩, hh, hr⟩
    · obtain ⟨b, cur, e1, hb, hh, hs, hne, ht⟩ := h5 hn
      exact ⟨b, cur, e1, ⟨hb, (Array.getElem?_eq_some_iff.1 hh).1⟩, hh, hs, hne, Trees.weak (fun k hk => ⟨⟨hk.1.1, hk.2⟩, hk.1.2⟩) (Trees.low ht)⟩
theorem Trees.low {w : World} {b : Nat} : ∀ {ks : List Tm} {o : Nat} {P : Nat → Prop}, Trees w b o ks P → Trees w b o ks (fun k => P k ∧ k < w.heap.size)
  | [], _, _, _ => by rw [Trees]; trivial
  | x :: xs, o, P, h => by
    rw [Trees] at h ⊢
    obtain ⟨v0, v1, v2, v3, Q, hc, hx, hq, hr⟩ := h
    exact ⟨v0, v1, v2, v3, fun k => Q k ∧ k < w.heap.size, hc, Tree.low hx, fun k hk => ⟨hq k hk.1, hk.2⟩, Trees.weak (fun k hk => ⟨⟨hk.1.1, hk.2⟩, fun h => hk.1.2 h.1⟩) (Trees.low hr)⟩
end

/-- Four cells of a block written over. -/
theorem four_set {w : World} {g o : Nat} {cur : Array Value} {y0 y1 y2 y3 : Value} (h : w.heap[g]? = some (.cells cur 25 (0, 0))) (hs : o + 4 ≤ cur.size) :
    (∃ cur', ((((w.setCell ⟨g, o, none⟩ y0).setCell ⟨g, o + 1, none⟩ y1).setCell ⟨g, o + 2, none⟩ y2).setCell ⟨g, o + 3, none⟩ y3).heap[g]? = some (.cells cur' 25 (0, 0)) ∧ cur'.size = cur.size ∧
      (∀ i, (i < o ∨ o + 4 ≤ i) → cur'[i]? = cur[i]?) ∧ cur'[o]? = some y0 ∧ cur'[o + 1]? = some y1 ∧ cur'[o + 2]? = some y2 ∧ cur'[o + 3]? = some y3) ∧
    ((((w.setCell ⟨g, o, none⟩ y0).setCell ⟨g, o + 1, none⟩ y1).setCell ⟨g, o + 2, none⟩ y2).setCell ⟨g, o + 3, none⟩ y3).heap.size = w.heap.size ∧
    ∀ k, k ≠ g → ((((w.setCell ⟨g, o, none⟩ y0).setCell ⟨g, o + 1, none⟩ y1).setCell ⟨g, o + 2, none⟩ y2).setCell ⟨g, o + 3, none⟩ y3).heap[k]? = w.heap[k]? := by
  refine ⟨⟨((((cur.setIfInBounds o y0).setIfInBounds (o + 1) y1).setIfInBounds (o + 2) y2).setIfInBounds (o + 3) y3), ?_, by simp, ?_, ?_, ?_, ?_, ?_⟩, ?_, ?_⟩
  · simp only [World.setCell, Array.getElem?_modify, h]
    simp
  · intro i hi
    rw [Array.getElem?_setIfInBounds_ne (by omega), Array.getElem?_setIfInBounds_ne (by omega), Array.getElem?_setIfInBounds_ne (by omega), Array.getElem?_setIfInBounds_ne (by omega)]
  · rw [Array.getElem?_setIfInBounds_ne (by omega), Array.getElem?_setIfInBounds_ne (by omega), Array.getElem?_setIfInBounds_ne (by omega), Array.getElem?_setIfInBounds_self_of_lt (by omega)]
  · rw [Array.getElem?_setIfInBounds_ne (by omega), Array.getElem?_setIfInBounds_ne (by omega), Array.getElem?_setIfInBounds_self_of_lt (by simp; omega)]
  · rw [Array.getElem?_setIfInBounds_ne (by omega), Array.getElem?_setIfInBounds_self_of_lt (by simp; omega)]
  · rw [Array.getElem?_setIfInBounds_self_of_lt (by simp; omega)]
  · simp [size_setCell]
  · intro k hk
    rw [Below.heap_setCell _ _ _ _ hk, Below.heap_setCell _ _ _ _ hk, Below.heap_setCell _ _ _ _ hk, Below.heap_setCell _ _ _ _ hk]
theorem cell_at {w : World} {g : Nat} {cur : Array Value} {e : TypeId} (h : w.heap[g]? = some (.cells cur e (0, 0))) (i : Nat) : w.cell? ⟨g, i, none⟩ = cur[i]? := Blk.cell (t := e) h i

theorem cp_next {w wr w5 : World} {A : Array Value} {tx : List UInt8} {ks : List Tm} {a1 : Option Addr} {g k : Nat} {y0 y1 y2 y3 : Value} (hr : CpRel w A tx ks a1 g k wr) (hk : k < ks.length) (hb : Below wr.heap.size wr w5)
    (hT : Tree w5 ks[k] (fun j => wr.heap.size ≤ j) (.agg #[y0, y1, y2, y3])) :
    CpRel w A tx ks a1 g (k + 1) ((((w5.setCell ⟨g, k * 4, none⟩ y0).setCell ⟨g, k * 4 + 1, none⟩ y1).setCell ⟨g, k * 4 + 2, none⟩ y2).setCell ⟨g, k * 4 + 3, none⟩ y3) := by
  have hne : ks ≠ [] := by rintro rfl; simp at hk
  obtain ⟨hg1, hg2, cur, hcur, hcs⟩ := hr.row hne
  have hgl : g < wr.heap.size := (Array.getElem?_eq_some_iff.1 hcur).1
  have hcur5 : w5.heap[g]? = some (.cells cur 25 (0, 0)) := (hb.block g hgl).trans hcur
  obtain ⟨⟨cur', hcur6, hsz', hout, c0, c1, c2, c3⟩, hsz6, hoth⟩ := four_set (y0 := y0) (y1 := y1) (y2 := y2) (y3 := y3) hcur5 (o := k * 4) (by omega)
  have hsame : ∀ {B : Nat} {a : World}, B ≤ g → Below B a w5 → Below B a ((((w5.setCell ⟨g, k * 4, none⟩ y0).setCell ⟨g, k * 4 + 1, none⟩ y1).setCell ⟨g, k * 4 + 2, none⟩ y2).setCell ⟨g, k * 4 + 3, none⟩ y3) :=
    fun hB h => (((h.setCell (p := ⟨g, k * 4, none⟩) hB _).setCell (p := ⟨g, k * 4 + 1, none⟩) hB _).setCell (p := ⟨g, k * 4 + 2, none⟩) hB _).setCell (p := ⟨g, k * 4 + 3, none⟩) hB _
  have hbelow := hsame (B := w.heap.size) (a := w) (by omega) (hr.below.trans (hb.mono hr.below.size))
  generalize ((((w5.setCell ⟨g, k * 4, none⟩ y0).setCell ⟨g, k * 4 + 1, none⟩ y1).setCell ⟨g, k * 4 + 2, none⟩ y2).setCell ⟨g, k * 4 + 3, none⟩ y3) = w6 at *
  have hs := hb.size
  have hold : ∀ j, j < wr.heap.size → j ≠ g → w6.heap[j]? = wr.heap[j]? := fun j h1 h2 => (hoth j h2).trans (hb.block j h1)
  have hcell : ∀ i, (i < k * 4 ∨ k * 4 + 4 ≤ i) → w6.cell? ⟨g, i, none⟩ = wr.cell? ⟨g, i, none⟩ := fun i hi => by rw [cell_at hcur6, cell_at hcur, hout i hi]
  refine ⟨hbelow, ?_, ?_, ?_, fun j hj => ?_, fun _ => ⟨hg1, hg2, cur', hcur6, by omega⟩, ?_, fun i h hki => ?_, hk⟩
  · exact (hold _ hr.box.lt (by omega)).trans hr.box
  · exact (hold _ hr.res.lt (by omega)).trans hr.res
  · exact hr.text.keep ⟨by omega, fun j hj hlt => hold j hlt hj.2⟩
  · have := hr.tblk j hj; omega
  · rw [List.take_succ_eq_append_getElem hk]
    have hd : Trees w6 g 0 (ks.take k) (fun k => (w.heap.size + 2 ≤ k ∧ k ≠ g ∧ some k ≠ a1.map (·.block)) ∧ k < wr.heap.size) :=
      Trees.keep ⟨by omega, fun j hj hlt => hold j hj.2 hj.1.2.1⟩ (fun i _ h2 => hcell i (by rw [List.length_take] at h2; omega)) hr.done
    have hx : Tree w6 ks[k] (fun j => wr.heap.size ≤ j ∧ j < w5.heap.size) (.agg #[y0, y1, y2, y3]) := Tree.keep ⟨by omega, fun j hj hlt => hoth j (by omega)⟩ hT.low
    have hl : (ks.take k).length = k := by rw [List.length_take]; omega
    refine Trees.snoc hx hd (fun j hj => ⟨hj.1, by omega⟩) (fun j hj => ⟨⟨⟨?_, ?_, fun h => ?_⟩, by omega⟩, fun h => by omega⟩) ?_ ?_ ?_ ?_
    · have := hr.box.lt; have := hr.res.lt; omega
    · omega
    · have := hr.tblk j h; omega
    · rw [hl, Nat.zero_add, cell_at hcur6]; exact c0
    · rw [hl, Nat.zero_add, cell_at hcur6]; exact c1
    · rw [hl, Nat.zero_add, cell_at hcur6]; exact c2
    · rw [hl, Nat.zero_add, cell_at hcur6]; exact c3
  · obtain ⟨v0, v1, v2, v3, e0, e1, e2, e3, hx⟩ := hr.rest i h (by omega)
    refine ⟨v0, v1, v2, v3, (hcell _ (by omega)).trans e0, (hcell _ (by omega)).trans e1, (hcell _ (by omega)).trans e2, (hcell _ (by omega)).trans e3, RTo.keep (keep_on hr.below hbelow (by omega)) hx⟩

theorem ret47 {R : Ending → World → Prop} {a : Act} {W : World} {k : Nat} {v0 v1 v2 v3 : Value} (h4 : (a.tmps[2]?).getD undef = .pointer (some ⟨k, 0, none⟩)) (hd : a.defers = []) (hb : Blk W k #[v0, v1, v2, v3] 25) (hR : R (.returned (.agg #[v0, v1, v2, v3])) W) : bodyPost Try.prog Try.f47 R .ret a W := by
  have f0 : W.cell? ⟨k, 0, none⟩ = some v0 := hb.cell 0
  have f1 : W.cell? ⟨k, 1, none⟩ = some v1 := hb.cell 1
  have f2 : W.cell? ⟨k, 2, none⟩ = some v2 := hb.cell 2
  have f3 : W.cell? ⟨k, 3, none⟩ = some v3 := hb.cell 3
  refine bodyPost_ret (v := .agg #[v0, v1, v2, v3]) ?_ hd hR
  simp [results, Try.results47, h4, go_sem, f0, f1, f2, f3]
theorem cp_end {w wr : World} {kd : Int} {cs : ByteArray} {tx : List UInt8} {ks : List Tm} {a1 a2 : Option Addr} {c1 c2 g : Nat} (hkd : -9223372036854775808 ≤ kd ∧ kd ≤ 9223372036854775807) (hcs : cs.size ≤ 140737488351232) (hkl : ks.length ≤ 140737488351232) (hg : ks ≠ [] → a2 = some ⟨g, 0, none⟩)
    (hr : CpRel w #[.int .i64 kd, .string cs, .slice a1 tx.length c1, .slice a2 ks.length c2] tx ks a1 g ks.length wr) :
    CpP w (.mk kd cs tx ks) (.returned (.agg #[.int .i64 kd, .string cs, .slice a1 tx.length c1, .slice a2 ks.length c2])) (lay4 wr (w.heap.size + 1) (.int .i64 kd) (.string cs) (.slice a1 tx.length c1) (.slice a2 ks.length c2)) := by
  have hbl : Below w.heap.size w (lay4 wr (w.heap.size + 1) (.int .i64 kd) (.string cs) (.slice a1 tx.length c1) (.slice a2 ks.length c2)) := by
    unfold lay4
    exact (((hr.below.setCell (p := ⟨_, 0, none⟩) (Nat.le_succ _) _).setCell (p := ⟨_, 1, none⟩) (Nat.le_succ _) _).setCell (p := ⟨_, 2, none⟩) (Nat.le_succ _) _).setCell (p := ⟨_, 3, none⟩) (Nat.le_succ _) _
  have hoth : ∀ k, k ≠ w.heap.size + 1 → (lay4 wr (w.heap.size + 1) (.int .i64 kd) (.string cs) (.slice a1 tx.length c1) (.slice a2 ks.length c2)).heap[k]? = wr.heap[k]? := by
    intro k hk
    unfold lay4
    rw [Below.heap_setCell _ _ _ _ hk, Below.heap_setCell _ _ _ _ hk, Below.heap_setCell _ _ _ _ hk, Below.heap_setCell _ _ _ _ hk]
  have hsz : (lay4 wr (w.heap.size + 1) (.int .i64 kd) (.string cs) (.slice a1 tx.length c1) (.slice a2 ks.length c2)).heap.size = wr.heap.size := by unfold lay4; simp [size_setCell]
  generalize lay4 wr (w.heap.size + 1) (.int .i64 kd) (.string cs) (.slice a1 tx.length c1) (.slice a2 ks.length c2) = w6 at *
  refine ⟨⟨_, rfl, ?_⟩, hbl⟩
  rw [Tree]
  refine ⟨a1, c1, a2, c2, rfl, hkd, hcs, TBo.weak (hr.text.keep (w' := w6) ⟨by omega, fun j hj _ => hoth j (by omega)⟩) (fun k hk => by omega), hkl, fun hn => ?_⟩
  obtain ⟨hg1, hg2, cur, hcur, hsc⟩ := hr.row hn
  have hd := hr.done
  rw [List.take_length] at hd
  have hc6 : w6.heap[g]? = some (.cells cur 25 (0, 0)) := (hoth g (by omega)).trans hcur
  refine ⟨g, cur, hg hn, by omega, hc6, hsc, hg2, Trees.weak (P := fun k => (w.heap.size + 2 ≤ k ∧ k ≠ g ∧ some k ≠ a1.map (·.block)) ∧ k < wr.heap.size) (fun k hk => ⟨by omega, hk.1.2.1, hk.1.2.2⟩) (Trees.keep ⟨by omega, fun j hj _ => hoth j (by omega)⟩ (fun i _ _ => ?_) hd)⟩
  rw [cell_at hc6, cell_at hcur]

set_option maxHeartbeats 2000000 in
set_option maxRecDepth 100000 in
theorem copied_any : ∀ T, CpOk T := by
  refine Tm.induct fun kd cs tx ks ih => ?_
  intro hcnt v w hT
  obtain ⟨a1, c1, a2, c2, rfl, hkd, hcs, htx, hks⟩ := hT.open
  simp only [Tm.kind, Tm.cons, Tm.text, Tm.kids] at hkd hcs htx hks ⊢
  rw [cnt] at hcnt
  have hlen : ks.length ≤ 1000000 := by have := cntL_len ks; omega
  have HTX := hide htx
  have HKS := hide hks
  have HI := hide ih
  have HC := hide hcnt
  have ht1 := htx.1
  obtain ⟨n1, hn1⟩ : ∃ n, ks.length = n := ⟨_, rfl⟩
  obtain ⟨n2, hn2⟩ : ∃ n, tx.length = n := ⟨_, rfl⟩
  have HN1 := hide hn1
  have HN2 := hide hn2
  have HCB := hide (fun W (h : Below w.heap.size w W) => cloneB_any tx ht1 a1 c1 W (htx.below h))
  have HCT := hide (fun W (h : Below w.heap.size w W) => cloneT_any ks hlen a2 c2 W (fun k => k < w.heap.size) (RKo.keep (keep_low h) (RKo.low hks)))
  rw [hn2] at HCB
  rw [hn1] at HCT hlen ⊢
  rw [hn2]
  clear hT htx hks ih hn1 hn2 hcnt ht1
  go_enter Try.func47, Try.ntmps47
  go_wp2_with fail
  refine (HCB.out _ (((Below.refl _ w).alloc (Nat.le_refl _) _).alloc (by simp) _)).mono ?_
  rintro e w1 ⟨⟨a1', c1', rfl, hrd, hbl⟩, hb1⟩
  rw [HN2.out]
  have hbx := (((Blk.new w #[.int .i64 kd, .string cs, .slice a1 n2 c1, .slice a2 n1 c2] 25).alloc (.cells #[.int .i64 0, .string emptyB, .slice none 0 0, .slice none 0 0] 25)).below hb1)
  have e0 := hbx.cell 0
  have e1 := hbx.cell 1
  have e2 := hbx.cell 2
  have e3 := hbx.cell 3
  have z2 := hbx.free 2
  have z3 := hbx.free 3
  have hlt := hbx.lt
  have HB1 := hide hb1
  have HRD := hide hrd
  have HBL := hide hbl
  have HBX := hide hbx
  have hB2 := hide (show Below w.heap.size w (w1.setCell ⟨w.heap.size, 2, none⟩ (.slice a1' n2 c1')) from Below.setCell (((((Below.refl _ w).alloc (Nat.le_refl _) _).alloc (by simp) _).trans (hb1.mono (by simp; omega)))) (p := ⟨w.heap.size, 2, none⟩) (Nat.le_refl _) _)
  clear hb1 hrd hbl hbx
  go_wp2_with fail
  refine (HCT.out _ hB2.out).mono ?_
  rintro e w3 ⟨⟨a2', c2', rfl, hrow⟩, hb3⟩
  rw [HN1.out]
  have hby := (Blk.put2 HBX.out (v := .slice a1' n2 c1')).below hb3
  have f0 := hby.cell 0
  have f1 := hby.cell 1
  have f2 := hby.cell 2
  have f3 := hby.cell 3
  have y3 := hby.free 3
  have hlt3 := hby.lt
  have HST := hide (cp_start (n1 := n1) (n2 := n2) (c2 := c2') HB1.out HRD.out HBL.out hb3 hrow)
  clear hb3 hrow hby e0 e1 e2 e3 z2 z3 HB1 HRD HBL HBX hB2 HCB HCT hlt
  go_wp2_with fail
  obtain ⟨g, hg, HR0⟩ := HST.out
  have HG := hide hg
  have hR0 := hide HR0
  clear HST hg HR0 f0 f1 f2 f3 y3 hlt3
  go_loopg [15] n1 (fun m v15 wr => ∃ k : Nat, Hid (m = n1 - k) ∧ v15 = .int .i64 (k : Int) ∧ Hid (CpRel w #[.int .i64 kd, .string cs, .slice a1' n2 c1', .slice a2' n1 c2'] tx ks a1' g k wr))
  case atStart => exact ⟨0, rfl, rfl, hR0⟩
  case round =>
    obtain ⟨k, hm, rfl, hr⟩ := hrel
    have hle := hr.out.le
    rw [HN1.out] at hle
    by_cases hlt : k < n1
    · have hlti : (k : Int) < (n1 : Int) := by omega
      have hk2 : k < ks.length := by have := HN1.out; omega
      have hne : ks ≠ [] := by rintro rfl; simp at hk2
      obtain rfl := HG.out hne
      obtain ⟨v0, v1, v2, v3, e0, e1, e2, e3, hx⟩ := hr.out.rest k hk2 (Nat.le_refl _)
      obtain ⟨x1, k1, x3, k3, ev, _, _, _, _⟩ := hx.open
      simp only [Value.agg.injEq, Array.mk.injEq, List.cons.injEq, and_true] at ev
      obtain ⟨rfl, rfl, rfl, rfl⟩ := ev
      obtain ⟨hg1, hg2, cur, hcur, hcs2⟩ := hr.out.row hne
      have p3 := hr.out.box.cell 3
      have pl := hr.out.box.lt
      have HX := hide (HI.out ks[k] (List.getElem_mem hk2) (by have := cntL_mem (List.getElem_mem hk2); have := HC.out; omega) _ wr.drew (RTo.weak (fun _ _ => trivial) (RTo.keep (Keep.drewS (Keep.refl _ _)) hx)))
      have hgl : g < wr.heap.size := (Array.getElem?_eq_some_iff.1 hcur).1
      clear hx
      go_wp2_with fail
      have HX2 := hide (show Calls Try.prog 47 #[.agg #[.int .i64 ks[k].kind, .string ks[k].cons, .slice x1 ks[k].text.length k1, .slice x3 ks[k].kids.length k3]] wr.drew fun e w5 => ∃ p1 m1 p2 m2, e = .returned (.agg #[.int .i64 ks[k].kind, .string ks[k].cons, .slice p1 ks[k].text.length m1, .slice p2 ks[k].kids.length m2]) ∧
          Hid (Tree w5 ks[k] (fun k => wr.heap.size ≤ k) (.agg #[.int .i64 ks[k].kind, .string ks[k].cons, .slice p1 ks[k].text.length m1, .slice p2 ks[k].kids.length m2])) ∧ Hid (Below wr.heap.size wr w5) ∧
          (w5.cell? ⟨w.heap.size, 3, none⟩ = some (.slice (some ⟨g, 0, none⟩) n1 c2') ∧ w.heap.size < w5.heap.size ∧ g < w5.heap.size) ∧
          w5.cell? ⟨g, k * 4, none⟩ = some (.int .i64 ks[k].kind) ∧ w5.cell? ⟨g, k * 4 + 1, none⟩ = some (.string ks[k].cons) ∧ w5.cell? ⟨g, k * 4 + 2, none⟩ = some (.slice x1 ks[k].text.length k1) ∧ w5.cell? ⟨g, k * 4 + 3, none⟩ = some (.slice x3 ks[k].kids.length k3) ∧
          w5.frozen? ⟨g, k * 4, none⟩ = false ∧ w5.frozen? ⟨g, k * 4 + 1, none⟩ = false ∧ w5.frozen? ⟨g, k * 4 + 2, none⟩ = false ∧ w5.frozen? ⟨g, k * 4 + 3, none⟩ = false by
        refine HX.out.mono ?_
        rintro e w5 ⟨⟨v', rfl, htree⟩, hb5⟩
        obtain ⟨p1, m1, p2, m2, rfl, _, _, _, _⟩ := htree.rt.open
        have hb : Below wr.heap.size wr w5 := ⟨hb5.os, hb5.tape, hb5.output, hb5.size, hb5.block⟩
        exact ⟨p1, m1, p2, m2, rfl, htree, hb, ⟨(hr.out.box.below hb).cell 3, Nat.lt_of_lt_of_le pl hb.size, Nat.lt_of_lt_of_le hgl hb.size⟩, cp_cells hcur hcs2 hk2 hb e0 e1 e2 e3⟩)
      clear HX hcur
      go_region_with (go_at_call 47; refine HX2.out.mono ?_; rintro e w5 ⟨p1, m1, p2, m2, rfl, HT5, HB5, ⟨q3, ql, gl⟩, d0, d1, d2, d3, z0, z1, z2, z3⟩)
      all_goals
        have HN := hide (cp_next hr.out hk2 HB5.out HT5.out)
        clear q3 ql gl d0 d1 d2 d3 z0 z1 z2 z3 HT5 HB5
        go_wp2_with fail
        go_roundg (n1 - (k + 1))
        case measure => rw [hm.out]; omega
        case rel => exact ⟨k + 1, rfl, rfl, HN⟩
    · have hlti : ¬ (k : Int) < (n1 : Int) := by omega
      have hke : k = ks.length := by have := HN1.out; omega
      have hr2 := hr.out
      rw [← HN1.out, ← HN2.out, hke] at hr2
      have HE := hide (cp_end hkd hcs (by omega) HG.out hr2)
      rw [HN1.out, HN2.out] at HE
      have t0 := hr.out.box.cell 0
      have t1 := hr.out.box.cell 1
      have t2 := hr.out.box.cell 2
      have t3 := hr.out.box.cell 3
      have tl := hr.out.box.lt
      have d0 := hr.out.res.cell 0
      have d1 := hr.out.res.cell 1
      have d2 := hr.out.res.cell 2
      have d3 := hr.out.res.cell 3
      have z0 := hr.out.res.free 0
      have z1 := hr.out.res.free 1
      have z2 := hr.out.res.free 2
      have z3 := hr.out.res.free 3
      have dl := hr.out.res.lt
      clear hr2
      go_wp2_with fail
      exact ret47 rfl rfl (Blk.lay hr.out.res) HE.out
end Go.Proofs.Ytfndldfnlncabaa
