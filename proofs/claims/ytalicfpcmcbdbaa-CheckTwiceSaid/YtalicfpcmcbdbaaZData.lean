/- A definition, as data, and how it lies in memory. -/
import Derived.Test.YtalicfpcmcbdbaaZBase
set_option linter.unusedVariables false
set_option linter.unusedSimpArgs false
set_option linter.unnecessarySimpa false
set_option linter.deprecated false
namespace Go.Proofs.Ytalicfpcmcbdbaa
open Go.RowKit

instance : Inhabited ByteArray := ⟨⟨#[]⟩⟩
/-- A set of bytes: four words. -/
structure St where
  w0 : Nat
  w1 : Nat
  w2 : Nat
  w3 : Nat
deriving DecidableEq, Inhabited
def St.ok (s : St) : Prop := s.w0 < 18446744073709551616 ∧ s.w1 < 18446744073709551616 ∧ s.w2 < 18446744073709551616 ∧ s.w3 < 18446744073709551616
def zS : St := ⟨0, 0, 0, 0⟩
theorem zS_ok : zS.ok := ⟨by decide, by decide, by decide, by decide⟩
def emptyB : ByteArray := ⟨#[]⟩
/-- A symbol. -/
structure Sy where
  kind : Int
  text : ByteArray
  set : St
  name : ByteArray
  sep : ByteArray
deriving DecidableEq, Inhabited
/-- A production. -/
structure Pd where
  lex : Bool
  sort : ByteArray
  cons : ByteArray
  bracket : Bool
  syms : List Sy
deriving DecidableEq, Inhabited
structure Gp where
  assoc : Int
  cons : List ByteArray
deriving DecidableEq, Inhabited
structure Fl where
  sort : ByteArray
  set : St
deriving DecidableEq, Inhabited
structure Rj where
  sort : ByteArray
  by_ : ByteArray
deriving DecidableEq, Inhabited
/-- An item of a template. -/
inductive It where
  | mk (kind : Int) (text : ByteArray) (n : Int) (kids : List It)
def It.kind : It → Int | .mk k _ _ _ => k
def It.text : It → ByteArray | .mk _ t _ _ => t
def It.num : It → Int | .mk _ _ n _ => n
def It.kids : It → List It | .mk _ _ _ l => l
structure Bx where
  cons : ByteArray
  items : List It
/-- A definition. -/
structure Df where
  start : ByteArray
  layout : ByteArray
  prods : List Pd
  chains : List (List Gp)
  follows : List Fl
  rejects : List Rj
  boxes : List Bx

def i64 (n : Int) : Prop := -9223372036854775808 ≤ n ∧ n ≤ 9223372036854775807
def short (s : ByteArray) : Prop := s.size ≤ 140737488351232

/-- Cells that lie one behind the other. -/
def CellsAt (cs : List Value) (b o : Nat) (W : World) : Prop := ∀ j u, cs[j]? = some u → W.cell? ⟨b, o + j, none⟩ = some u
/-- What stays where it lies while new blocks are made. -/
def Stable {α : Type} (At : α → Nat → Nat → World → Prop) : Prop := ∀ (x : α) (b o : Nat) (W W' : World), Below W.heap.size W W' → b < W.heap.size → At x b o W → At x b o W'
theorem CellsAt.below {cs : List Value} {b o : Nat} {W W' : World} (h : CellsAt cs b o W) (hb : Below W.heap.size W W') (hlt : b < W.heap.size) : CellsAt cs b o W' :=
  fun j u hj => ((hb.cell (p := ⟨b, o + j, none⟩) hlt).trans (h j u hj))
/-- A slice that reads as a list. -/
def Row {α : Type} (At : α → Nat → Nat → World → Prop) (sz : Nat) (l : List α) (a : Option Addr) (W : World) : Prop :=
  l.length ≤ 140737488351232 ∧ (l ≠ [] → ∃ b o, a = some ⟨b, o, none⟩ ∧ b < W.heap.size ∧ ∀ i (h : i < l.length), At l[i] b (o + i * sz) W)
theorem Row.below {α : Type} {At : α → Nat → Nat → World → Prop} (hs : Stable At) {sz : Nat} {l : List α} {a : Option Addr} {W W' : World} (h : Row At sz l a W) (hb : Below W.heap.size W W') : Row At sz l a W' := by
  refine ⟨h.1, fun hn => ?_⟩
  obtain ⟨b, o, e, hlt, hc⟩ := h.2 hn
  exact ⟨b, o, e, Nat.lt_of_lt_of_le hlt hb.size, fun i hi => hs _ _ _ _ _ hb hlt (hc i hi)⟩
theorem Row.nil {α : Type} {At : α → Nat → Nat → World → Prop} {sz : Nat} {a : Option Addr} {W : World} : Row At sz ([] : List α) a W := ⟨by simp, fun h => absurd rfl h⟩
theorem Row.get {α : Type} {At : α → Nat → Nat → World → Prop} {sz : Nat} {l : List α} {a : Option Addr} {W : World} (h : Row At sz l a W) {k : Nat} (hk : k < l.length) : ∃ b o, a = some ⟨b, o, none⟩ ∧ b < W.heap.size ∧ ∀ i (h : i < l.length), At l[i] b (o + i * sz) W :=
  h.2 (by rintro rfl; simp at hk)

def StrAt (s : ByteArray) (b o : Nat) (W : World) : Prop := short s ∧ W.cell? ⟨b, o, none⟩ = some (.string s)
theorem StrAt.stable : Stable StrAt := fun _ _ _ _ _ hb hlt h => ⟨h.1, (hb.cell (p := ⟨_, _, none⟩) hlt).trans h.2⟩
def IntAt (n : Int) (b o : Nat) (W : World) : Prop := i64 n ∧ W.cell? ⟨b, o, none⟩ = some (.int .i64 n)
theorem IntAt.stable : Stable IntAt := fun _ _ _ _ _ hb hlt h => ⟨h.1, (hb.cell (p := ⟨_, _, none⟩) hlt).trans h.2⟩

def syC (x : Sy) : List Value := [.int .i64 x.kind, .string x.text, .int .u64 (x.set.w0 : Int), .int .u64 (x.set.w1 : Int), .int .u64 (x.set.w2 : Int), .int .u64 (x.set.w3 : Int), .string x.name, .string x.sep]
structure Sy.ok (x : Sy) : Prop where
  k : i64 x.kind
  t : short x.text
  s : x.set.ok
  n : short x.name
  p : short x.sep
def SyAt (x : Sy) (b o : Nat) (W : World) : Prop := x.ok ∧ CellsAt (syC x) b o W
theorem SyAt.stable : Stable SyAt := fun _ _ _ _ _ hb hlt h => ⟨h.1, h.2.below hb hlt⟩
theorem SyAt.cells {x : Sy} {b o : Nat} {W : World} (h : SyAt x b o W) : W.cell? ⟨b, o, none⟩ = some (.int .i64 x.kind) ∧ W.cell? ⟨b, o + 1, none⟩ = some (.string x.text) ∧ W.cell? ⟨b, o + 2, none⟩ = some (.int .u64 (x.set.w0 : Int)) ∧ W.cell? ⟨b, o + 3, none⟩ = some (.int .u64 (x.set.w1 : Int)) ∧ W.cell? ⟨b, o + 4, none⟩ = some (.int .u64 (x.set.w2 : Int)) ∧ W.cell? ⟨b, o + 5, none⟩ = some (.int .u64 (x.set.w3 : Int)) ∧ W.cell? ⟨b, o + 6, none⟩ = some (.string x.name) ∧ W.cell? ⟨b, o + 7, none⟩ = some (.string x.sep) :=
  ⟨h.2 0 _ rfl, h.2 1 _ rfl, h.2 2 _ rfl, h.2 3 _ rfl, h.2 4 _ rfl, h.2 5 _ rfl, h.2 6 _ rfl, h.2 7 _ rfl⟩

/-- A production, but for its symbols, that lie elsewhere. -/
structure Pd.ok (p : Pd) : Prop where
  s : short p.sort
  c : short p.cons
def PdAt (p : Pd) (b o : Nat) (W : World) : Prop := p.ok ∧ ∃ a c, CellsAt [.bool p.lex, .string p.sort, .string p.cons, .bool p.bracket, .slice a p.syms.length c] b o W ∧ Row SyAt 8 p.syms a W ∧ p.syms.length ≤ c
theorem PdAt.stable : Stable PdAt := fun _ _ _ _ _ hb hlt h => ⟨h.1, h.2.elim fun a h => h.elim fun c h => ⟨a, c, h.1.below hb hlt, h.2.1.below SyAt.stable hb, h.2.2⟩⟩
theorem PdAt.cells {p : Pd} {b o : Nat} {W : World} (h : PdAt p b o W) : ∃ a c, (W.cell? ⟨b, o, none⟩ = some (.bool p.lex) ∧ W.cell? ⟨b, o + 1, none⟩ = some (.string p.sort) ∧ W.cell? ⟨b, o + 2, none⟩ = some (.string p.cons) ∧ W.cell? ⟨b, o + 3, none⟩ = some (.bool p.bracket) ∧ W.cell? ⟨b, o + 4, none⟩ = some (.slice a p.syms.length c)) ∧ Row SyAt 8 p.syms a W := by
  obtain ⟨_, a, c, h, hr, _⟩ := h
  exact ⟨a, c, ⟨h 0 _ rfl, h 1 _ rfl, h 2 _ rfl, h 3 _ rfl, h 4 _ rfl⟩, hr⟩
/-- The slice of its symbols, with its room. -/
theorem PdAt.cap {p : Pd} {b o : Nat} {W : World} (h : PdAt p b o W) : ∃ a c, W.cell? ⟨b, o + 4, none⟩ = some (.slice a p.syms.length c) ∧ Row SyAt 8 p.syms a W ∧ p.syms.length ≤ c := by
  obtain ⟨_, a, c, h, hr, hc⟩ := h
  exact ⟨a, c, h 4 _ rfl, hr, hc⟩

def GpAt (g : Gp) (b o : Nat) (W : World) : Prop := i64 g.assoc ∧ ∃ a c, CellsAt [.int .i64 g.assoc, .slice a g.cons.length c] b o W ∧ Row StrAt 1 g.cons a W
theorem GpAt.stable : Stable GpAt := fun _ _ _ _ _ hb hlt h => ⟨h.1, h.2.elim fun a h => h.elim fun c h => ⟨a, c, h.1.below hb hlt, h.2.below StrAt.stable hb⟩⟩
theorem GpAt.cells {p : Gp} {b o : Nat} {W : World} (h : GpAt p b o W) : ∃ a c, (W.cell? ⟨b, o, none⟩ = some (.int .i64 p.assoc) ∧ W.cell? ⟨b, o + 1, none⟩ = some (.slice a p.cons.length c)) ∧ Row StrAt 1 p.cons a W := by
  obtain ⟨_, a, c, h, hr⟩ := h
  exact ⟨a, c, ⟨h 0 _ rfl, h 1 _ rfl⟩, hr⟩
/-- A chain is a slice of groups. -/
def ChAt (l : List Gp) (b o : Nat) (W : World) : Prop := ∃ a c, W.cell? ⟨b, o, none⟩ = some (.slice a l.length c) ∧ Row GpAt 2 l a W
theorem ChAt.stable : Stable ChAt := fun _ _ _ _ _ hb hlt h => h.elim fun a h => h.elim fun c h => ⟨a, c, (hb.cell (p := ⟨_, _, none⟩) hlt).trans h.1, h.2.below GpAt.stable hb⟩

structure Fl.ok (x : Fl) : Prop where
  n : short x.sort
  s : x.set.ok
def flC (x : Fl) : List Value := [.string x.sort, .int .u64 (x.set.w0 : Int), .int .u64 (x.set.w1 : Int), .int .u64 (x.set.w2 : Int), .int .u64 (x.set.w3 : Int)]
def FlAt (x : Fl) (b o : Nat) (W : World) : Prop := x.ok ∧ CellsAt (flC x) b o W
theorem FlAt.stable : Stable FlAt := fun _ _ _ _ _ hb hlt h => ⟨h.1, h.2.below hb hlt⟩
theorem FlAt.cells {x : Fl} {b o : Nat} {W : World} (h : FlAt x b o W) : W.cell? ⟨b, o, none⟩ = some (.string x.sort) ∧ W.cell? ⟨b, o + 1, none⟩ = some (.int .u64 (x.set.w0 : Int)) ∧ W.cell? ⟨b, o + 2, none⟩ = some (.int .u64 (x.set.w1 : Int)) ∧ W.cell? ⟨b, o + 3, none⟩ = some (.int .u64 (x.set.w2 : Int)) ∧ W.cell? ⟨b, o + 4, none⟩ = some (.int .u64 (x.set.w3 : Int)) :=
  ⟨h.2 0 _ rfl, h.2 1 _ rfl, h.2 2 _ rfl, h.2 3 _ rfl, h.2 4 _ rfl⟩
structure Rj.ok (x : Rj) : Prop where
  n : short x.sort
  b : short x.by_
def RjAt (x : Rj) (b o : Nat) (W : World) : Prop := x.ok ∧ CellsAt [.string x.sort, .string x.by_] b o W
theorem RjAt.stable : Stable RjAt := fun _ _ _ _ _ hb hlt h => ⟨h.1, h.2.below hb hlt⟩
theorem RjAt.cells {x : Rj} {b o : Nat} {W : World} (h : RjAt x b o W) : W.cell? ⟨b, o, none⟩ = some (.string x.sort) ∧ W.cell? ⟨b, o + 1, none⟩ = some (.string x.by_) := ⟨h.2 0 _ rfl, h.2 1 _ rfl⟩

mutual
/-- An item of a template in memory. -/
def ItAt : It → Nat → Nat → World → Prop
  | .mk k t n l, b, o, W => i64 k ∧ short t ∧ i64 n ∧ ∃ a c, CellsAt [.int .i64 k, .string t, .int .i64 n, .slice a l.length c] b o W ∧ l.length ≤ 140737488351232 ∧ (l ≠ [] → ∃ b' o', a = some ⟨b', o', none⟩ ∧ b' < W.heap.size ∧ ItsAt l b' o' W)
def ItsAt : List It → Nat → Nat → World → Prop
  | [], _, _, _ => True
  | x :: xs, b, o, W => ItAt x b o W ∧ ItsAt xs b (o + 4) W
end
theorem itsAt_iff : ∀ (l : List It) (b o : Nat) (W : World), ItsAt l b o W ↔ ∀ i (h : i < l.length), ItAt l[i] b (o + i * 4) W
  | [], b, o, W => by rw [ItsAt]; simp
  | x :: xs, b, o, W => by
    rw [ItsAt, itsAt_iff xs b (o + 4) W]
    constructor
    · rintro ⟨h0, h1⟩ i hi
      cases i with
      | zero => simpa using h0
      | succ i =>
        have := h1 i (by simpa using hi)
        rw [show o + (i + 1) * 4 = o + 4 + i * 4 by omega]
        simpa using this
    · intro h
      refine ⟨by have h0 := h 0 (by simp); rw [Nat.zero_mul, Nat.add_zero] at h0; exact h0, fun i hi => ?_⟩
      have := h (i + 1) (by simpa using hi)
      rw [show o + (i + 1) * 4 = o + 4 + i * 4 by omega] at this
      simpa using this
theorem itAt_iff (x : It) (b o : Nat) (W : World) : ItAt x b o W ↔ i64 x.kind ∧ short x.text ∧ i64 x.num ∧ ∃ a c, CellsAt [.int .i64 x.kind, .string x.text, .int .i64 x.num, .slice a x.kids.length c] b o W ∧ Row ItAt 4 x.kids a W := by
  obtain ⟨k, t, n, l⟩ := x
  rw [ItAt]
  simp only [It.kind, It.text, It.num, It.kids, Row]
  constructor
  · rintro ⟨h1, h2, h3, a, c, h4, h5, h6⟩
    refine ⟨h1, h2, h3, a, c, h4, h5, fun hn => ?_⟩
    obtain ⟨b', o', e, hb, h⟩ := h6 hn
    exact ⟨b', o', e, hb, (itsAt_iff l b' o' W).1 h⟩
  · rintro ⟨h1, h2, h3, a, c, h4, h5, h6⟩
    refine ⟨h1, h2, h3, a, c, h4, h5, fun hn => ?_⟩
    obtain ⟨b', o', e, hb, h⟩ := h6 hn
    exact ⟨b', o', e, hb, (itsAt_iff l b' o' W).2 h⟩
mutual
theorem ItAt.below : ∀ (x : It) {b o : Nat} {W W' : World}, Below W.heap.size W W' → b < W.heap.size → ItAt x b o W → ItAt x b o W'
  | .mk k t n l, b, o, W, W', hb, hlt, h => by
    rw [ItAt] at h ⊢
    obtain ⟨h1, h2, h3, a, c, h4, h5, h6⟩ := h
    refine ⟨h1, h2, h3, a, c, h4.below hb hlt, h5, fun hn => ?_⟩
    obtain ⟨b', o', e, hb', h⟩ := h6 hn
    exact ⟨b', o', e, Nat.lt_of_lt_of_le hb' hb.size, ItsAt.below l hb hb' h⟩
theorem ItsAt.below : ∀ (l : List It) {b o : Nat} {W W' : World}, Below W.heap.size W W' → b < W.heap.size → ItsAt l b o W → ItsAt l b o W'
  | [], _, _, _, _, _, _, _ => by rw [ItsAt]; trivial
  | x :: xs, b, o, W, W', hb, hlt, h => by
    rw [ItsAt] at h ⊢
    exact ⟨ItAt.below x hb hlt h.1, ItsAt.below xs hb hlt h.2⟩
end
theorem ItAt.stable : Stable ItAt := fun x _ _ _ _ hb hlt h => ItAt.below x hb hlt h
theorem ItAt.cells {x : It} {b o : Nat} {W : World} (h : ItAt x b o W) : (i64 x.kind ∧ short x.text ∧ i64 x.num) ∧ ∃ a c, (W.cell? ⟨b, o, none⟩ = some (.int .i64 x.kind) ∧ W.cell? ⟨b, o + 1, none⟩ = some (.string x.text) ∧ W.cell? ⟨b, o + 2, none⟩ = some (.int .i64 x.num) ∧ W.cell? ⟨b, o + 3, none⟩ = some (.slice a x.kids.length c)) ∧ Row ItAt 4 x.kids a W := by
  obtain ⟨h1, h2, h3, a, c, h, hr⟩ := (itAt_iff x b o W).1 h
  exact ⟨⟨h1, h2, h3⟩, a, c, ⟨h 0 _ rfl, h 1 _ rfl, h 2 _ rfl, h 3 _ rfl⟩, hr⟩
def BxAt (x : Bx) (b o : Nat) (W : World) : Prop := short x.cons ∧ ∃ a c, CellsAt [.string x.cons, .slice a x.items.length c] b o W ∧ Row ItAt 4 x.items a W
theorem BxAt.stable : Stable BxAt := fun _ _ _ _ _ hb hlt h => ⟨h.1, h.2.elim fun a h => h.elim fun c h => ⟨a, c, h.1.below hb hlt, h.2.below ItAt.stable hb⟩⟩
theorem BxAt.cells {x : Bx} {b o : Nat} {W : World} (h : BxAt x b o W) : short x.cons ∧ ∃ a c, (W.cell? ⟨b, o, none⟩ = some (.string x.cons) ∧ W.cell? ⟨b, o + 1, none⟩ = some (.slice a x.items.length c)) ∧ Row ItAt 4 x.items a W := by
  obtain ⟨h1, a, c, h, hr⟩ := h
  exact ⟨h1, a, c, ⟨h 0 _ rfl, h 1 _ rfl⟩, hr⟩

/-- Where a definition's five rows lie. -/
structure Rw where
  a2 : Option Addr
  c2 : Nat
  a3 : Option Addr
  c3 : Nat
  a4 : Option Addr
  c4 : Nat
  a5 : Option Addr
  c5 : Nat
  a6 : Option Addr
  c6 : Nat
/-- A definition's cells. -/
def dfC (d : Df) (r : Rw) : List Value := [.string d.start, .string d.layout, .slice r.a2 d.prods.length r.c2, .slice r.a3 d.chains.length r.c3, .slice r.a4 d.follows.length r.c4, .slice r.a5 d.rejects.length r.c5, .slice r.a6 d.boxes.length r.c6]
/-- What a definition's rows hold. -/
structure RD (d : Df) (r : Rw) (W : World) : Prop where
  s : short d.start
  l : short d.layout
  p : Row PdAt 5 d.prods r.a2 W
  c : Row ChAt 1 d.chains r.a3 W
  f : Row FlAt 5 d.follows r.a4 W
  j : Row RjAt 2 d.rejects r.a5 W
  x : Row BxAt 2 d.boxes r.a6 W
  q : d.rejects.length ≤ r.c5
theorem RD.below {d : Df} {r : Rw} {W W' : World} (h : RD d r W) (hb : Below W.heap.size W W') : RD d r W' :=
  ⟨h.s, h.l, h.p.below PdAt.stable hb, h.c.below ChAt.stable hb, h.f.below FlAt.stable hb, h.j.below RjAt.stable hb, h.x.below BxAt.stable hb, h.q⟩
end Go.Proofs.Ytalicfpcmcbdbaa
