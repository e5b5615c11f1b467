/- The walk of the scanner's next: what is said of worlds. -/
import Derived.Test.YtfngkdcjifdliaaPut
import Derived.Test.YtfngkdcjifdliaaSkip
import Derived.Test.YtfngkdcjifdliaaWords
import Derived.Deep.RegionHeld3
set_option linter.unusedVariables false
set_option linter.unusedSimpArgs false
set_option linter.unnecessarySimpa false
set_option linter.deprecated false
namespace Go.Proofs.Ytfngkdcjifdliaa
open Go.RowKit

/-- What next answers: a word more. -/
def NxP (B sb : Nat) (text : ByteArray) (e : Nat) (line top : Int) (ws : List Wd) (x : Wd) (w : World) (r : Ending) (w' : World) : Prop := r = .returned (.agg #[.int .i64 0, .int .i64 0]) ∧ ∃ v', Hid (ScW B sb text (e : Int) line top (ws ++ [x]) v' w' ∧ Wrote (ScP B sb) w w')
theorem NB.all {B sb : Nat} {text : ByteArray} {p : Int} {line top : Int} {ws : List Wd} {v : Value} {w1 W : World} (s : Hid (ScW B sb text p line top ws v w1)) (h : Below w1.heap.size w1 W) : Hid (Below w1.heap.size w1 W) ∧ W.cell? ⟨sb, 0, none⟩ = some (.string text) ∧ W.cell? ⟨sb, 1, none⟩ = some (.int .i64 p) :=
  ⟨hide h, (s.out.b.below h).cell 0, (s.out.b.below h).cell 1⟩
theorem NB.alloc {w1 W : World} (h : Below w1.heap.size w1 W) (o : Obj) : Below w1.heap.size w1 (W.alloc o) := h.alloc h.size o
theorem NB.set {w1 W : World} {k i : Nat} {u : Value} (h : Below w1.heap.size w1 W) (hk : w1.heap.size ≤ k) : Below w1.heap.size w1 (W.setCell ⟨k, i, none⟩ u) := h.setCell hk u
theorem NB.below {w1 W W' : World} (h : Below w1.heap.size w1 W) (hb : Below W.heap.size W W') : Below w1.heap.size w1 W' := below_next h hb
theorem NB.two {w1 W' : World} (hb : Below ((w1.alloc (.cells #[.int .u64 0, .int .u64 0, .int .u64 0, .int .u64 0] 24)).alloc (.cells #[.int .i64 0, .int .i64 0] 30)).drew.heap.size ((w1.alloc (.cells #[.int .u64 0, .int .u64 0, .int .u64 0, .int .u64 0] 24)).alloc (.cells #[.int .i64 0, .int .i64 0] 30)).drew W') : Blk W' w1.heap.size #[.int .u64 0, .int .u64 0, .int .u64 0, .int .u64 0] 24 ∧ Blk W' (w1.heap.size + 1) #[.int .i64 0, .int .i64 0] 30 ∧ Below w1.heap.size w1 W' :=
  ⟨(blk_drew ((Blk.new w1 _ _).alloc _)).below hb, by have := (blk_drew (Blk.new (w1.alloc (.cells #[.int .u64 0, .int .u64 0, .int .u64 0, .int .u64 0] 24)) #[.int .i64 0, .int .i64 0] 30)).below hb; simp only [World.size_alloc] at this; exact this, NB.below (NB.alloc (NB.alloc (Below.refl _ _) _) _).drew hb⟩
theorem NB.two' {w1 W' : World} (hb : Below ((w1.alloc (.cells #[.int .i64 0, .int .i64 0] 30)).alloc (.cells #[.int .u64 0, .int .u64 0, .int .u64 0, .int .u64 0] 24)).drew.heap.size ((w1.alloc (.cells #[.int .i64 0, .int .i64 0] 30)).alloc (.cells #[.int .u64 0, .int .u64 0, .int .u64 0, .int .u64 0] 24)).drew W') : Blk W' (w1.heap.size + 1) #[.int .u64 0, .int .u64 0, .int .u64 0, .int .u64 0] 24 ∧ Blk W' w1.heap.size #[.int .i64 0, .int .i64 0] 30 ∧ Below w1.heap.size w1 W' :=
  ⟨by have := (blk_drew (Blk.new (w1.alloc (.cells #[.int .i64 0, .int .i64 0] 30)) #[.int .u64 0, .int .u64 0, .int .u64 0, .int .u64 0] 24)).below hb; simp only [World.size_alloc] at this; exact this, (blk_drew ((Blk.new w1 _ _).alloc _)).below hb, NB.below (NB.alloc (NB.alloc (Below.refl _ _) _) _).drew hb⟩
theorem NB.one {w1 W' : World} (hb : Below (w1.alloc (.cells #[.int .u64 0, .int .u64 0, .int .u64 0, .int .u64 0] 24)).drew.heap.size (w1.alloc (.cells #[.int .u64 0, .int .u64 0, .int .u64 0, .int .u64 0] 24)).drew W') : Blk W' w1.heap.size #[.int .u64 0, .int .u64 0, .int .u64 0, .int .u64 0] 24 ∧ Below w1.heap.size w1 W' := ⟨(blk_drew (Blk.new w1 _ _)).below hb, NB.below (NB.alloc (Below.refl _ _) _).drew hb⟩
theorem NB.one' {w1 W' : World} (hb : Below (w1.alloc (.cells #[.int .i64 0, .int .i64 0] 30)).drew.heap.size (w1.alloc (.cells #[.int .i64 0, .int .i64 0] 30)).drew W') : Blk W' w1.heap.size #[.int .i64 0, .int .i64 0] 30 ∧ Below w1.heap.size w1 W' := ⟨(blk_drew (Blk.new w1 _ _)).below hb, NB.below (NB.alloc (Below.refl _ _) _).drew hb⟩
theorem NB.none {w1 W' : World} (hb : Below w1.drew.heap.size w1.drew W') : Below w1.heap.size w1 W' := NB.below (Below.refl _ _).drew hb
theorem NB.new1 {W : World} {o : Obj} {c : Array Value} {t : TypeId} : Blk ((W.alloc o).alloc (.cells c t)) (W.heap.size + 1) c t := by have := Blk.new (W.alloc o) c t; simp only [World.size_alloc] at this; exact this
/-- The world behind the region: a set and a fault in blocks of their own. -/
structure EndR (w1 wc : World) (k10 k12 : Nat) (s : St) : Prop where
  b : Below w1.heap.size w1 wc
  s : Blk wc k10 (svC s) 24
  f : Blk wc k12 #[.int .i64 0, .int .i64 0] 30
theorem EndR.l1 {w1 w5 : World} {s : St} (h : Below w1.heap.size w1 w5) : EndR w1 ((w5.alloc (.cells #[.int .u64 (s.w0 : Int), .int .u64 (s.w1 : Int), .int .u64 (s.w2 : Int), .int .u64 (s.w3 : Int)] 24)).alloc (.cells #[.int .i64 0, .int .i64 0] 30)) w5.heap.size (w5.heap.size + 1) s := ⟨NB.alloc (NB.alloc h _) _, (Blk.new w5 _ _).alloc _, NB.new1⟩
theorem EndR.l2 {w1 w5 : World} {s : St} (h : Below w1.heap.size w1 w5) : EndR w1 ((w5.alloc (.cells #[.int .i64 0, .int .i64 0] 30)).alloc (.cells #[.int .u64 (s.w0 : Int), .int .u64 (s.w1 : Int), .int .u64 (s.w2 : Int), .int .u64 (s.w3 : Int)] 24)) (w5.heap.size + 1) w5.heap.size s := ⟨NB.alloc (NB.alloc h _) _, NB.new1, (Blk.new w5 _ _).alloc _⟩
theorem EndR.l3 {w1 w5 : World} {s : St} {k1 : Nat} (h : Below w1.heap.size w1 w5) (h1 : w1.heap.size ≤ k1) (q : Blk w5 k1 #[.int .u64 0, .int .u64 0, .int .u64 0, .int .u64 0] 24) : EndR w1 (((((w5.setCell ⟨k1, 0, none⟩ (.int .u64 (s.w0 : Int))).setCell ⟨k1, 1, none⟩ (.int .u64 (s.w1 : Int))).setCell ⟨k1, 2, none⟩ (.int .u64 (s.w2 : Int))).setCell ⟨k1, 3, none⟩ (.int .u64 (s.w3 : Int))).alloc (.cells #[.int .i64 0, .int .i64 0] 30)) k1 w5.heap.size s := ⟨NB.alloc (NB.set (NB.set (NB.set (NB.set h h1) h1) h1) h1) _, ((((q.set 0 _).set 1 _).set 2 _).set 3 _).alloc _, by have := Blk.new ((((w5.setCell ⟨k1, 0, none⟩ (.int .u64 (s.w0 : Int))).setCell ⟨k1, 1, none⟩ (.int .u64 (s.w1 : Int))).setCell ⟨k1, 2, none⟩ (.int .u64 (s.w2 : Int))).setCell ⟨k1, 3, none⟩ (.int .u64 (s.w3 : Int))) #[.int .i64 0, .int .i64 0] 30; rw [size_setCell, size_setCell, size_setCell, size_setCell] at this; exact this⟩
theorem EndR.l4 {w1 w5 : World} {s : St} {k1 k2 : Nat} (h : Below w1.heap.size w1 w5) (h1 : w1.heap.size ≤ k1) (h2 : w1.heap.size ≤ k2) (hne : k1 ≠ k2) (q : Blk w5 k1 #[.int .u64 0, .int .u64 0, .int .u64 0, .int .u64 0] 24) (q2 : Blk w5 k2 #[.int .i64 0, .int .i64 0] 30) : EndR w1 ((((((w5.setCell ⟨k1, 0, none⟩ (.int .u64 (s.w0 : Int))).setCell ⟨k1, 1, none⟩ (.int .u64 (s.w1 : Int))).setCell ⟨k1, 2, none⟩ (.int .u64 (s.w2 : Int))).setCell ⟨k1, 3, none⟩ (.int .u64 (s.w3 : Int))).setCell ⟨k2, 0, none⟩ (.int .i64 0)).setCell ⟨k2, 1, none⟩ (.int .i64 0)) k1 k2 s := ⟨NB.set (NB.set (NB.set (NB.set (NB.set (NB.set h h1) h1) h1) h1) h2) h2, (((((q.set 0 _).set 1 _).set 2 _).set 3 _).other hne).other hne, (((((q2.other hne.symm).other hne.symm).other hne.symm).other hne.symm).set 0 _).set 1 _⟩
theorem EndR.l5 {w1 w5 : World} {s : St} {k2 : Nat} (h : Below w1.heap.size w1 w5) (h2 : w1.heap.size ≤ k2) (q2 : Blk w5 k2 #[.int .i64 0, .int .i64 0] 30) : EndR w1 (((w5.setCell ⟨k2, 0, none⟩ (.int .i64 0)).setCell ⟨k2, 1, none⟩ (.int .i64 0)).alloc (.cells #[.int .u64 (s.w0 : Int), .int .u64 (s.w1 : Int), .int .u64 (s.w2 : Int), .int .u64 (s.w3 : Int)] 24)) w5.heap.size k2 s := ⟨NB.alloc (NB.set (NB.set h h2) h2) _, by have := Blk.new ((w5.setCell ⟨k2, 0, none⟩ (.int .i64 0)).setCell ⟨k2, 1, none⟩ (.int .i64 0)) (svC s) 24; rw [size_setCell, size_setCell] at this; exact this, ((q2.set 0 _).set 1 _).alloc _⟩
theorem ret10 {R : Ending → World → Prop} {a : Act} {W : World} {k : Nat} (h2 : (a.tmps[2]?).getD undef = .pointer (some ⟨k, 0, none⟩)) (hd : a.defers = []) (hb : Blk W k #[.int .i64 0, .int .i64 0] 30) (hR : R (.returned (.agg #[.int .i64 0, .int .i64 0])) W) : bodyPost Try.prog Try.f10 R .ret a W := by
  have g0 : W.cell? ⟨k, 0, none⟩ = some (.int .i64 0) := hb.cell 0
  have g1 : W.cell? ⟨k, 1, none⟩ = some (.int .i64 0) := hb.cell 1
  refine ⟨hd, .agg #[.int .i64 0, .int .i64 0], ?_, hR⟩
  simp [results, Try.results10, h2, go_sem, g0, g1, Try.isAgg30, Try.sizeOf30]
theorem ScP.other {B sb h : Nat} {c : Array Value} {w w' : World} (hw : Wrote (ScP B sb) w w') (hf : Blk w h c 30) : Blk w' h c 30 := hw.block h _ hf (by rintro c t f e; injection e with _ e2 _; subst e2; rintro (⟨_, h⟩ | ⟨h, _⟩) <;> exact absurd h (by decide))
theorem ScP.fault {B sb h : Nat} {w w' : World} (hw : Wrote (ScP B sb) w w') (hn : w.heap.size ≤ h) (v : Value) (i : Nat) : Wrote (ScP B sb) w (w'.setCell ⟨h, i, none⟩ v) :=
  ⟨hw.os, hw.tape, hw.output, by rw [size_setCell]; exact hw.size, fun j o hj hp => by
    have hl := (Array.getElem?_eq_some_iff.1 hj).1
    rw [Below.heap_setCell _ _ _ _ (by show j ≠ h; omega)]
    exact hw.block j o hj hp⟩
theorem ScW.fault {B sb h i : Nat} {text : ByteArray} {p line top : Int} {ws : List Wd} {v u : Value} {w : World} {c : Array Value} (hs : ScW B sb text p line top ws v w) (hf : Blk w h c 30) : ScW B sb text p line top ws v (w.setCell ⟨h, i, none⟩ u) := ⟨hs.b.other (hs.b.ne hf (by decide)), own_set hs.own hf (by decide)⟩
theorem NxP.done {B sb h e : Nat} {text : ByteArray} {line top : Int} {ws : List Wd} {x : Wd} {v' : Value} {w w' : World} {a : Act} (hh : w.heap.size = h) (hf : Blk w' h #[.int .i64 0, .int .i64 0] 30) (hw : Wrote (ScP B sb) w w') (hs : ScW B sb text (e : Int) line top (ws ++ [x]) v' w')
    (h2 : (a.tmps[2]?).getD undef = .pointer (some ⟨h, 0, none⟩) := by rfl) (hd : a.defers = [] := by rfl) : bodyPost Try.prog Try.f10 (NxP B sb text e line top ws x w) .ret a ((w'.setCell ⟨h, 0, none⟩ (.int .i64 0)).setCell ⟨h, 1, none⟩ (.int .i64 0)) :=
  ret10 h2 hd ((hf.set 0 _).set 1 _) ⟨rfl, v', hide ⟨ScW.fault (ScW.fault hs hf) (hf.set 0 (.int .i64 0)), ScP.fault (ScP.fault hw (Nat.le_of_eq hh) _ _) (Nat.le_of_eq hh) _ _⟩⟩
end Go.Proofs.Ytfngkdcjifdliaa
