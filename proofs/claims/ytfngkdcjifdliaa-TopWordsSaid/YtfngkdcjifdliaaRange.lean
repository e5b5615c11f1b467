/- A law for a range over a function: the body is told that what it is handed reads; the iterator and the body keep what holds cells. -/
import Derived.RangeFuncNested
import Derived.RangeFuncBound
import Derived.RangeFuncCalls
import Derived.RangeFuncLeaves
import Derived.Shelf.Abstract
import Derived.Shelf.RegionOpen
import Derived.WalkKit
import Derived.OwnWalkIn
import Derived.TacticsInMore
import Derived.LoopNIn
import Derived.LoopIn
import Derived.Test.YtfngkdcjifdliaaBase
set_option linter.unusedVariables false
set_option linter.unusedSimpArgs false
set_option linter.unnecessarySimpa false
set_option linter.deprecated false
namespace Go.Proofs.Ytfngkdcjifdliaa
open Go.RowKit

/-- What lies below B, and whatever holds cells, lies as it lay. -/
structure Turn (B : Nat) (W W' : World) : Prop where
  os : W'.os = W.os
  tape : W'.tape = W.tape
  output : W'.output = W.output
  size : W.heap.size ≤ W'.heap.size
  low : ∀ k, k < B → W'.heap[k]? = W.heap[k]?
  cells : ∀ (k : Nat) (c : Array Value) (t : TypeId) (f : Nat × Nat), W.heap[k]? = some (Obj.cells c t f) → W'.heap[k]? = some (Obj.cells c t f)
theorem Turn.refl (B : Nat) (W : World) : Turn B W W := ⟨rfl, rfl, rfl, Nat.le_refl _, fun _ _ => rfl, fun _ _ _ _ h => h⟩
theorem Turn.trans {B : Nat} {a b c : World} (h : Turn B a b) (k : Turn B b c) : Turn B a c :=
  ⟨k.os.trans h.os, k.tape.trans h.tape, k.output.trans h.output, Nat.le_trans h.size k.size, fun i hi => (k.low i hi).trans (h.low i hi), fun i c t f e => k.cells i c t f (h.cells i c t f e)⟩
theorem Turn.of_below {B : Nat} {W W' : World} (h : Below W.heap.size W W') (hB : B ≤ W.heap.size) : Turn B W W' :=
  ⟨h.os, h.tape, h.output, h.size, fun k hk => h.block k (by omega), fun k c t f e => (h.block k (Array.getElem?_eq_some_iff.1 e).1).trans e⟩
theorem Turn.alloc (B : Nat) (W : World) (o : Obj) (hB : B ≤ W.heap.size) : Turn B W (W.alloc o) := Turn.of_below ((Below.refl _ W).alloc (Nat.le_refl _) o) hB
theorem Turn.putObj {B : Nat} {W : World} {l : Nat} {o : Obj} (o' : Obj) (hB : B ≤ l) (h : W.heap[l]? = some o) (ho : o.isCells = false) : Turn B W (W.putObj l o') := by
  have hg := grownBy_putObj' W l o'
  have hl := (Array.getElem?_eq_some_iff.1 h).1
  refine ⟨hg.os, hg.tape, hg.output, hg.size, fun k hk => hg.block k (by omega) (by intro e; cases e; omega), fun k c t f e => ?_⟩
  refine (hg.block k (Array.getElem?_eq_some_iff.1 e).1 (fun e2 => ?_)).trans e
  cases e2
  rw [h] at e
  cases e
  cases ho
theorem Turn.mono {B B' : Nat} {W W' : World} (h : Turn B W W') (hB : B' ≤ B) : Turn B' W W' := ⟨h.os, h.tape, h.output, h.size, fun k hk => h.low k (by omega), h.cells⟩
theorem Turn.below {B B' : Nat} {w W W' : World} (h : Turn B W W') (hb : Below B' w W) (hB : B' ≤ B) : Below B' w W' :=
  ⟨h.os.trans hb.os, h.tape.trans hb.tape, h.output.trans hb.output, Nat.le_trans hb.size h.size, fun k hk => (h.low k (by omega)).trans (hb.block k hk)⟩

/-- Of what holds cells nothing but what is named, by its place and its type, is written over; all else stands. -/
structure Wrote (P : Nat → TypeId → Prop) (w w' : World) : Prop where
  os : w'.os = w.os
  tape : w'.tape = w.tape
  output : w'.output = w.output
  size : w.heap.size ≤ w'.heap.size
  block : ∀ k o, w.heap[k]? = some o → (∀ (c : Array Value) (t : TypeId) (f : Nat × Nat), o = Obj.cells c t f → ¬ P k t) → w'.heap[k]? = some o
theorem Wrote.refl (P : Nat → TypeId → Prop) (w : World) : Wrote P w w := ⟨rfl, rfl, rfl, Nat.le_refl _, fun _ _ h _ => h⟩
theorem Wrote.trans {P : Nat → TypeId → Prop} {a b c : World} (h : Wrote P a b) (k : Wrote P b c) : Wrote P a c :=
  ⟨k.os.trans h.os, k.tape.trans h.tape, k.output.trans h.output, Nat.le_trans h.size k.size, fun i o hi hp => k.block i o (h.block i o hi hp) hp⟩
theorem Wrote.of_below {P : Nat → TypeId → Prop} {W W' : World} (h : Below W.heap.size W W') : Wrote P W W' := ⟨h.os, h.tape, h.output, h.size, fun k o hk _ => (h.block k (Array.getElem?_eq_some_iff.1 hk).1).trans hk⟩
theorem Wrote.alloc (P : Nat → TypeId → Prop) (W : World) (o : Obj) : Wrote P W (W.alloc o) := Wrote.of_below ((Below.refl _ W).alloc (Nat.le_refl _) o)
theorem Wrote.of_grown {P : Nat → TypeId → Prop} {W W' : World} {row : Option Nat} (hg : W.grownBy W' row) (hr : ∀ k, row = some k → W.heap.size ≤ k ∨ ∃ (c : Array Value) (t : TypeId) (f : Nat × Nat), W.heap[k]? = some (Obj.cells c t f) ∧ P k t) : Wrote P W W' :=
  ⟨hg.os, hg.tape, hg.output, hg.size, fun k o hk hp => (hg.block k (Array.getElem?_eq_some_iff.1 hk).1 (fun e => by
    rcases hr k e.symm with h | ⟨c, t, f, h, h2⟩
    · have := (Array.getElem?_eq_some_iff.1 hk).1; omega
    · rw [hk] at h
      injection h with h
      exact hp c t f h h2)).trans hk⟩
theorem Wrote.set {P : Nat → TypeId → Prop} {b i : Nat} (W : World) (v : Value) {c : Array Value} {t : TypeId} {f : Nat × Nat} (hh : W.heap[b]? = some (Obj.cells c t f)) (hb : P b t) : Wrote P W (W.setCell ⟨b, i, none⟩ v) :=
  ⟨rfl, rfl, rfl, by rw [size_setCell]; exact Nat.le_refl _, fun k o hk hp => (Below.heap_setCell _ _ _ _ (by show k ≠ b; rintro rfl; rw [hk] at hh; injection hh with hh; exact hp _ _ _ hh hb)).trans hk⟩
theorem Wrote.draw (P : Nat → TypeId → Prop) (W : World) (n : Nat) : Wrote P W (W.drewN n) := ⟨rfl, rfl, rfl, Nat.le_refl _, fun _ _ h _ => h⟩
theorem Wrote.keep {P : Nat → TypeId → Prop} {ok : Nat → Prop} {w w' : World} (h : Wrote P w w') (hk : ∀ k t, ok k → ¬ P k t) : Keep ok w w' := ⟨h.size, fun k ho hl => by
  rw [Array.getElem?_eq_getElem hl]
  exact h.block k _ (Array.getElem?_eq_getElem hl) (fun c t f _ => hk k t ho)⟩
theorem Wrote.below {P : Nat → TypeId → Prop} {w w' : World} {B : Nat} (h : Wrote P w w') (hB : B ≤ w.heap.size) (hp : ∀ k t, P k t → B ≤ k) : Below B w w' :=
  ⟨h.os, h.tape, h.output, h.size, (h.keep (ok := fun k => k < B) (fun k t hk h2 => by have := hp k t h2; omega)).block |> fun g k hk => g k hk (by omega)⟩
theorem Wrote.mono {P P' : Nat → TypeId → Prop} {w w' : World} (h : Wrote P w w') (hp : ∀ k t, P k t → P' k t) : Wrote P' w w' := ⟨h.os, h.tape, h.output, h.size, fun k o hk hn => h.block k o hk (fun c t f e h2 => hn c t f e (hp k t h2))⟩

/-- What holds cells, but for what is written over, lies as it lay. -/
structure KC (Wr : Nat → TypeId → Prop) (A B : World) : Prop where
  size : A.heap.size ≤ B.heap.size
  block : ∀ (k : Nat) (c : Array Value) (t : TypeId) (f : Nat × Nat), ¬ Wr k t → A.heap[k]? = some (Obj.cells c t f) → B.heap[k]? = some (Obj.cells c t f)
theorem KC.trans {Wr : Nat → TypeId → Prop} {a b c : World} (h : KC Wr a b) (k : KC Wr b c) : KC Wr a c := ⟨Nat.le_trans h.size k.size, fun i x t f hn e => k.block i x t f hn (h.block i x t f hn e)⟩
theorem Turn.kc {B : Nat} {Wr : Nat → TypeId → Prop} {W W' : World} (h : Turn B W W') : KC Wr W W' := ⟨h.size, fun k c t f _ e => h.cells k c t f e⟩
theorem Wrote.kc {Wr : Nat → TypeId → Prop} {W W' : World} (h : Wrote Wr W W') : KC Wr W W' := ⟨h.size, fun k c t f hn e => h.block k _ e (fun c' t' f' e' => by injection e' with _ e' _; subst e'; exact hn)⟩
theorem KC.refl (Wr : Nat → TypeId → Prop) (W : World) : KC Wr W W := ⟨Nat.le_refl _, fun _ _ _ _ _ h => h⟩
theorem cells_of {W : World} {b i : Nat} {v : Value} (h : W.cell? ⟨b, i, none⟩ = some v) : ∃ (c : Array Value) (t : TypeId) (f : Nat × Nat), W.heap[b]? = some (Obj.cells c t f) := by
  unfold World.cell? at h
  cases e : W.heap[b]? with
  | none => simp [e] at h
  | some o => cases o with
    | cells c t f => exact ⟨c, t, f, rfl⟩
    | _ => simp [e] at h
theorem KC.cell {Wr : Nat → TypeId → Prop} {A B : World} (h : KC Wr A B) {b i : Nat} {v : Value} (hb : ∀ t, ¬ Wr b t) (e : A.cell? ⟨b, i, none⟩ = some v) : B.cell? ⟨b, i, none⟩ = some v := by
  obtain ⟨c, t, f, e2⟩ := cells_of e
  exact (World.cell?_of_block (w := A) (by show B.heap[b]? = A.heap[b]?; rw [e2]; exact h.block b c t f (hb t) e2)).trans e
theorem KC.blk {Wr : Nat → TypeId → Prop} {A B : World} (h : KC Wr A B) {k : Nat} {c : Array Value} {t : TypeId} (hb : ¬ Wr k t) (e : Blk A k c t) : Blk B k c t := h.block k c t _ hb e

/-- An iterator, called wherever what lay in w lies as it lay. -/
def Iter {α : Type} (P : Program) (g : Nat) (lb : Array Value) (encs : α → Array Value) (R : List α → α → World → World → Prop) (Wr : Nat → TypeId → Prop) (S Sp : List α → Prop) (N : Nat) (w : World) : Prop :=
  ∀ (l : Nat) (J Jx : List α → World → Prop) (W : World), Below w.heap.size w W → (∀ s A B, J s A → Turn W.heap.size A B → J s B) → (∀ s A B, Jx s A → Turn W.heap.size A B → Jx s B) →
    (∀ m pre x W0 W1, J pre W0 → Below W0.heap.size W0 W1 → R pre x W0 W1 → pre.length < N → YieldAt Fence.wide m P l (encs x) W1 fun e W' =>
      (e = .returned (.bool true) ∧ J (pre ++ [x]) W' ∧ KC Wr W1 W') ∨ (e = .returned (.bool false) ∧ Jx (pre ++ [x]) W')) →
    J [] W →
    ∀ n, CallsIn Fence.wide n P g (#[.func (.yield l) #[] #[]] ++ lb) W fun e W' => (∃ v, e = .returned v) ∧ ((∃ xs, S xs ∧ J xs W') ∨ (∃ pre, Sp pre ∧ Jx pre W'))

/-- How the body of a round may be left. -/
def rangePost {α : Type} (Wr : Nat → TypeId → Prop) (I : List α → World → Prop) (Ix : Code → List α → World → Prop) (xs : List α) (W : World) : Exit → Act → World → Prop
  | .normal, _, W' => Wrote Wr W W' ∧ I xs W'
  | .ret, _, W' => Wrote Wr W W' ∧ Ix .ret xs W'
  | .exit id, _, W' => Wrote Wr W W' ∧ Ix (.exit id) xs W'
  | .goto t, _, W' => Wrote Wr W W' ∧ Ix (.goto t) xs W'
  | .panic _, _, _ => False
  | .outgrown, _, _ => False

theorem RoundIn.anyDepth {F : Fence} (hd : F.depth = none) {m m' : Nat} {P : Program} {l : Nat} {f : FuncId} {tmps : Array Value} {assign body : Code} {w : World} {R : Ending → World → Prop}
    (h : RoundIn F m P l f tmps assign body w R) : RoundIn F m' P l f tmps assign body w R := ⟨h.1, fun c cs _ => h.2 c cs (fun d h => by rw [hd] at h; cases h)⟩

theorem range_law {α : Type} {P : Program} {n : Nat} {g : Operand} {ps : Array Tmp} {assign body : Code} {Q : Exit → Act → World → Prop} {a : Act} {w : World}
    (h1 : 1 ≤ n) {gf : Nat} {lb : Array Value} (hg : a.eval g = .func (.func gf) #[] lb) (eg : ∀ args w, (callFunc gf args).run P w = .ok (.enter gf args) w)
    {encs : α → Array Value} {R : List α → α → World → World → Prop} {Wr : Nat → TypeId → Prop} {S Sp : List α → Prop} {N : Nat} (hseq : Iter P gf lb encs R Wr S Sp N w)
    (hps : ∀ x, (encs x).size = ps.size)
    (I : List α → World → Prop) (Ix : Code → List α → World → Prop) (hI : ∀ s A B, I s A → Turn w.heap.size A B → I s B) (hIx : ∀ c s A B, Ix c s A → Turn w.heap.size A B → Ix c s B) (h0 : I [] w)
    (Ax : List α → α → Act → World → Prop) (hAx : ∀ pre x a' A B, Ax pre x a' A → Turn w.heap.size A B → Ax pre x a' B)
    (hassign : ∀ (l : Nat) (pre : List α) (x : α) (W0 W : World) (K : Act → World → Prop), I pre W0 → Below W0.heap.size W0 W → R pre x W0 W → I pre W → (∀ a' W', Wrote Wr W W' → I pre W' → Ax pre x a' W' → K a' W') →
      assign.wpIn (Fence.wide.inRound l) (n - 1 - 1) P (Exit.then K (fun _ _ _ => False)) { tmps := (ps.zip (encs x)).foldl (fun t (p, v) => t.setIfInBounds p v) a.tmps, defers := [] } W)
    (hbody : ∀ (l : Nat) (pre : List α) (x : α) (a' : Act) (W : World), I pre W → Ax pre x a' W → pre.length < N → body.wpIn (Fence.wide.inRound l) (n - 1 - 1) P (rangePost Wr I Ix (pre ++ [x]) W) a' W)
    (hdone : ∀ (D : Nat) (xs : List α) (W : World), w.heap.size ≤ D → S xs → I xs W → W.heap[D]? = some (.deferred (some [])) → Q .normal { a with defers := { target := .collected D, args := #[] } :: a.defers } W)
    (hstop : ∀ (D : Nat) (c : Code) (pre : List α) (W : World), w.heap.size ≤ D → Sp pre → Ix c pre W → W.heap[D]? = some (.deferred (some [])) → c.wpIn Fence.wide n P Q { a with defers := { target := .collected D, args := #[] } :: a.defers } W) :
    (Code.rangeFunc g ps assign body).wpIn Fence.wide n P Q a w := by
  refine wpIn_rangeFunc ?_
  intro fn hfn
  have hro : Fence.wide.round = none := rfl
  rw [hro]
  obtain ⟨rec, hrec⟩ : ∃ rec : LoopState → Option Code → Loop, rec = fun st pe => { state := st, pending := pe, fn, tmps := a.tmps, params := ps, assign, body, defers := w.heap.size } := ⟨_, rfl⟩
  obtain ⟨W1, hW1⟩ : ∃ W1, (w.alloc (.deferred (some []))).alloc (.loop (rec .ready none)) = W1 := ⟨_, rfl⟩
  have hL1 : W1.heap[w.heap.size + 1]? = some (.loop (rec .ready none)) := by
    rw [← hW1]; have := World.alloc_heap_new (w.alloc (.deferred (some []))) (.loop (rec .ready none)); rwa [World.size_alloc] at this
  have hK1 : W1.heap[w.heap.size]? = some (.deferred (some [])) := by
    rw [← hW1]; exact (Below.heap_alloc _ _ _ (by simp)).trans (World.alloc_heap_new w _)
  have hb1 : Below w.heap.size w W1 := by
    rw [← hW1]; exact ((Below.refl _ w).alloc (Nat.le_refl _) _).alloc (by simp) _
  have hs1 : W1.heap.size = w.heap.size + 2 := by rw [← hW1]; simp
  have hI1 : I [] W1 := hI _ _ _ h0 (Turn.of_below hb1 (Nat.le_refl _))
  -- a turn keeps the two blocks of book-keeping where they lie below it
  have low : ∀ {A B : World} {k : Nat} {o : Obj}, Turn W1.heap.size A B → k < w.heap.size + 2 → A.heap[k]? = some o → B.heap[k]? = some o := fun ht hk e => (ht.low _ (by omega)).trans e
  refine ⟨w.heap.size + 1, [{ target := .collected w.heap.size, args := #[] }], W1, { target := .fn (.func gf) lb, args := #[.func (.yield (w.heap.size + 1)) #[] #[]] }, W1, gf,
    #[.func (.yield (w.heap.size + 1)) #[] #[]] ++ lb, W1, ?_, ?_, ?_, ?_, fun _ => h1, ?_⟩
  · rw [← hW1, hrec]; exact run_enterLoop_outer _ _ _ _ _
  · simp only [resolve, hg]
    simp [go_sem]
  · intro f' hf'; trivial
  · simp [invoke, go_sem, eg]
  · refine (hseq (w.heap.size + 1)
      (fun pre W => I pre W ∧ W.heap[w.heap.size + 1]? = some (.loop (rec .ready none)) ∧ W.heap[w.heap.size]? = some (.deferred (some [])))
      (fun pre W => ∃ c, Ix c pre W ∧ W.heap[w.heap.size + 1]? = some (.loop (rec .done (some c))) ∧ W.heap[w.heap.size]? = some (.deferred (some [])))
      W1 hb1
      (fun s A B hs ht => ⟨hI s A B hs.1 (ht.mono (by omega)), low ht (by omega) hs.2.1, low ht (by omega) hs.2.2⟩)
      (fun s A B hs ht => by
        obtain ⟨c, hc, hl, hk⟩ := hs
        exact ⟨c, hIx c s A B hc (ht.mono (by omega)), low ht (by omega) hl, low ht (by omega) hk⟩)
      ?_ ⟨hI1, hL1, hK1⟩ (n - 1)).mono ?_
    · rintro m pre x W0 W ⟨hi0, hl0, hk0⟩ hb01 hR hlen
      have hlt0 : w.heap.size + 1 < W0.heap.size := (Array.getElem?_eq_some_iff.1 hl0).1
      have ht01 : Turn W1.heap.size W0 W := Turn.of_below hb01 (by omega)
      have hi := hI _ _ _ hi0 (ht01.mono (by omega))
      have hl := low ht01 (by omega) hl0
      have hk := low ht01 (by omega) hk0
      have hlt : w.heap.size + 1 < W.heap.size := (Array.getElem?_eq_some_iff.1 hl).1
      have hy := run_yield (P := P) (args := encs x) hl (by rw [hrec]; exact hps x)
      rw [hrec] at hy
      refine ⟨fn, _, assign, body, hy, RoundIn.anyDepth rfl (m := n - 1 - 1) (roundIn_of_wpIn hfn (hassign _ pre x W0 W _ hi0 hb01 hR hi ?_))⟩
      clear hy
      intro a' Wa hwa hia hax
      have hla : Wa.heap[w.heap.size + 1]? = some (.loop (rec .ready none)) := hwa.block _ _ hl (fun c t f e => by cases e)
      have hka : Wa.heap[w.heap.size]? = some (.deferred (some [])) := hwa.block _ _ hk (fun c t f e => by cases e)
      have hlta : w.heap.size + 1 < Wa.heap.size := (Array.getElem?_eq_some_iff.1 hla).1
      refine ⟨_, run_beginRound hla (by rw [hrec]), ?_⟩
      have hl2 : (Wa.putObj (w.heap.size + 1) (.loop { rec .ready none with state := .busy })).heap[w.heap.size + 1]? = some (.loop { rec .ready none with state := .busy }) := World.putObj_heap_same hlta
      have hk2 : (Wa.putObj (w.heap.size + 1) (.loop { rec .ready none with state := .busy })).heap[w.heap.size]? = some (.deferred (some [])) := (World.putObj_heap_other (by omega)).trans hka
      have ht2 : Turn w.heap.size Wa (Wa.putObj (w.heap.size + 1) (.loop { rec .ready none with state := .busy })) := Turn.putObj _ (by omega) hla rfl
      refine wpIn_mono (hbody _ pre x a' _ (hI _ _ _ hia ht2) (hAx _ _ _ _ _ hax ht2) hlen) ?_
      have fin : ∀ (jump : Option Code) (W3 : World), Wrote Wr (Wa.putObj (w.heap.size + 1) (.loop { rec .ready none with state := .busy })) W3 →
          (Instr.endRound (w.heap.size + 1) jump).run P W3 = .ok (.bool jump.isNone) (W3.putObj (w.heap.size + 1) (.loop (rec (if jump.isNone then .ready else .done) jump))) ∧
          W3.heap[w.heap.size + 1]? = some (.loop { rec .ready none with state := .busy }) ∧
          (W3.putObj (w.heap.size + 1) (.loop (rec (if jump.isNone then .ready else .done) jump))).heap[w.heap.size + 1]? = some (.loop (rec (if jump.isNone then .ready else .done) jump)) ∧
          (W3.putObj (w.heap.size + 1) (.loop (rec (if jump.isNone then .ready else .done) jump))).heap[w.heap.size]? = some (.deferred (some [])) := fun jump W3 hk3 => by
        have hl3 : W3.heap[w.heap.size + 1]? = some (.loop { rec .ready none with state := .busy }) := hk3.block _ _ hl2 (fun c t f e => by cases e)
        have hk4 : W3.heap[w.heap.size]? = some (.deferred (some [])) := hk3.block _ _ hk2 (fun c t f e => by cases e)
        have := run_endRound (P := P) jump hl3
        rw [hrec] at this ⊢
        exact ⟨this, by rw [hrec] at hl3; exact hl3, World.putObj_heap_same (Array.getElem?_eq_some_iff.1 hl3).1, (World.putObj_heap_other (by omega)).trans hk4⟩
      rintro e a3 W3 hp
      cases e with
      | normal =>
        obtain ⟨hk3, hi3⟩ := hp
        obtain ⟨hr, hl3, hl4, hk4⟩ := fin none W3 hk3
        have ht3 := Turn.putObj (B := w.heap.size) (.loop (rec (if (none : Option Code).isNone then .ready else .done) none)) (by omega) hl3 rfl
        exact ⟨_, _, hr, .inl ⟨rfl, ⟨hI _ _ _ hi3 ht3, hl4, hk4⟩, hwa.kc.trans (ht2.kc.trans (hk3.kc.trans ht3.kc))⟩⟩
      | ret =>
        obtain ⟨hk3, hi3⟩ := hp
        obtain ⟨hr, hl3, hl4, hk4⟩ := fin (some .ret) W3 hk3
        exact ⟨_, _, hr, .inr ⟨rfl, .ret, hIx _ _ _ _ hi3 (Turn.putObj _ (by omega) hl3 rfl), hl4, hk4⟩⟩
      | exit id =>
        obtain ⟨hk3, hi3⟩ := hp
        obtain ⟨hr, hl3, hl4, hk4⟩ := fin (some (.exit id)) W3 hk3
        exact ⟨_, _, hr, .inr ⟨rfl, .exit id, hIx _ _ _ _ hi3 (Turn.putObj _ (by omega) hl3 rfl), hl4, hk4⟩⟩
      | goto t =>
        obtain ⟨hk3, hi3⟩ := hp
        obtain ⟨hr, hl3, hl4, hk4⟩ := fin (some (.goto t)) W3 hk3
        exact ⟨_, _, hr, .inr ⟨rfl, .goto t, hIx _ _ _ _ hi3 (Turn.putObj _ (by omega) hl3 rfl), hl4, hk4⟩⟩
      | panic ch => exact hp.elim
      | outgrown => exact hp.elim
    · rintro e W2 ⟨⟨v, rfl⟩, (⟨xs, hS, hi, hl, hk⟩ | ⟨pre, hSp, c, hi, hl, hk⟩)⟩
      · exact ⟨none, _, by have := run_endLoop (P := P) hl (by rw [hrec]; simp); rw [hrec] at this; exact this, hdone _ xs _ (Nat.le_refl _) hS (hI _ _ _ hi (Turn.putObj _ (by omega) hl rfl)) ((World.putObj_heap_other (by omega)).trans hk)⟩
      · exact ⟨some c, _, by have := run_endLoop (P := P) hl (by rw [hrec]; simp); rw [hrec] at this; exact this, hstop _ c pre _ (Nat.le_refl _) hSp (hIx _ _ _ _ hi (Turn.putObj _ (by omega) hl rfl)) ((World.putObj_heap_other (by omega)).trans hk)⟩

/-- The same where the loop's one variable is laid in a block of its own. -/
theorem range_law1 {α : Type} {P : Program} {n : Nat} {g : Operand} {p sb : Tmp} {assign body : Code} {Q : Exit → Act → World → Prop} {a : Act} {w : World}
    (h1 : 1 ≤ n) {gf : Nat} {lb : Array Value} (hg : a.eval g = .func (.func gf) #[] lb) (eg : ∀ args w, (callFunc gf args).run P w = .ok (.enter gf args) w)
    {enc : α → Value} {R : List α → α → World → World → Prop} {Wr : Nat → TypeId → Prop} {S Sp : List α → Prop} {N : Nat} (hseq : Iter P gf lb (fun x => #[enc x]) R Wr S Sp N w)
    (I : List α → World → Prop) (Ix : Code → List α → World → Prop) (hI : ∀ s A B, I s A → Turn w.heap.size A B → I s B) (hIx : ∀ c s A B, Ix c s A → Turn w.heap.size A B → Ix c s B) (h0 : I [] w)
    (Bx : List α → α → Nat → World → Prop) (hBx : ∀ pre x b A B, Bx pre x b A → Turn w.heap.size A B → Bx pre x b B)
    (hassign : ∀ (l : Nat) (pre : List α) (x : α) (W0 W : World) (K : Act → World → Prop), I pre W0 → Below W0.heap.size W0 W → R pre x W0 W → I pre W → (∀ b W', Wrote Wr W W' → I pre W' → Bx pre x b W' → K { tmps := (a.tmps.setIfInBounds p (enc x)).setIfInBounds sb (.pointer (some ⟨b, 0, none⟩)), defers := [] } W') →
      assign.wpIn (Fence.wide.inRound l) (n - 1 - 1) P (Exit.then K (fun _ _ _ => False)) { tmps := a.tmps.setIfInBounds p (enc x), defers := [] } W)
    (hbody : ∀ (l : Nat) (pre : List α) (x : α) (b : Nat) (W : World), I pre W → Bx pre x b W → pre.length < N → body.wpIn (Fence.wide.inRound l) (n - 1 - 1) P (rangePost Wr I Ix (pre ++ [x]) W) { tmps := (a.tmps.setIfInBounds p (enc x)).setIfInBounds sb (.pointer (some ⟨b, 0, none⟩)), defers := [] } W)
    (hdone : ∀ (D : Nat) (xs : List α) (W : World), w.heap.size ≤ D → S xs → I xs W → W.heap[D]? = some (.deferred (some [])) → Q .normal { a with defers := { target := .collected D, args := #[] } :: a.defers } W)
    (hstop : ∀ (D : Nat) (c : Code) (pre : List α) (W : World), w.heap.size ≤ D → Sp pre → Ix c pre W → W.heap[D]? = some (.deferred (some [])) → c.wpIn Fence.wide n P Q { a with defers := { target := .collected D, args := #[] } :: a.defers } W) :
    (Code.rangeFunc g #[p] assign body).wpIn Fence.wide n P Q a w :=
  range_law h1 hg eg hseq (fun _ => rfl) I Ix hI hIx h0 (fun pre x a' W => ∃ b, a' = { tmps := (a.tmps.setIfInBounds p (enc x)).setIfInBounds sb (.pointer (some ⟨b, 0, none⟩)), defers := [] } ∧ Bx pre x b W)
    (fun pre x a' A B h ht => by obtain ⟨b, e, h2⟩ := h; exact ⟨b, e, hBx _ _ _ _ _ h2 ht⟩)
    (fun l pre x W0 W K h1 h2 h3 h4 h5 => by
      have e : Array.foldl (fun (t : Array Value) (x : Tmp × Value) => match x with | (p, v) => t.setIfInBounds p v) a.tmps (#[p].zip #[enc x]) = a.tmps.setIfInBounds p (enc x) := by simp
      rw [e]
      exact hassign l pre x W0 W K h1 h2 h3 h4 (fun b W' h6 h7 h8 => h5 _ W' h6 h7 ⟨b, rfl, h8⟩))
    (fun l pre x a' W h1 h2 h3 => by obtain ⟨b, rfl, h4⟩ := h2; exact hbody l pre x b W h1 h4 h3) hdone hstop
end Go.Proofs.Ytfngkdcjifdliaa
