/- What Check answers. When Check tells nothing. -/
import Derived.Test.YtalicfpcmcbdbaaZChk
import Derived.Test.YtalicfpcmcbdbaaZRej
set_option linter.unusedVariables false
set_option linter.unusedSimpArgs false
set_option linter.unnecessarySimpa false
set_option linter.deprecated false
namespace Go.Proofs.Ytalicfpcmcbdbaa
open Go.RowKit

/-- A definition that the walks bear. -/
structure Small (d : Df) : Prop where
  pl : d.prods.length ≤ 99999
  sl : ∀ p ∈ d.prods, p.syms.length ≤ 10000
  ul : (usedL d).length ≤ 99000
  ct : ∀ ch ∈ d.chains, (chainN ch).length ≤ 99999
  bl : d.boxes.length ≤ 100000
theorem Small.pl5 {d : Df} (h : Small d) : d.prods.length ≤ 100000 := by have := h.pl; omega
theorem Small.sl5 {d : Df} (h : Small d) : ∀ p ∈ d.prods, p.syms.length ≤ 100000 := fun p hp => by have := h.sl p hp; omega
theorem Small.nl {d : Df} (h : Small d) : (d.prods.flatMap namesL).length ≤ 99999 := by
  have := h.ul
  unfold usedL at this
  simp only [List.length_append] at this
  omega
theorem rejN_len : ∀ l : List Rj, (l.flatMap rejN).length = 2 * l.length
  | [] => rfl
  | x :: l => by rw [List.flatMap_cons, List.length_append, rejN_len l]; simp [rejN]; omega
theorem Small.rl {d : Df} (h : Small d) : d.rejects.length + d.follows.length ≤ 100000 := by
  have := h.ul
  unfold usedL at this
  simp only [List.length_append, List.length_map, rejN_len] at this
  omega
theorem bareL_len (p : Pd) : (bareL p).length ≤ 1 := by
  unfold bareL
  split
  · split <;> simp
  · simp
theorem bareL_all : ∀ l : List Pd, (l.flatMap bareL).length ≤ l.length
  | [] => Nat.le_refl _
  | x :: l => by
    rw [List.flatMap_cons, List.length_append]
    have := bareL_all l
    have := bareL_len x
    simp only [List.length_cons]
    omega
theorem Small.al {d : Df} (h : Small d) : (d.prods.flatMap bareL).length ≤ 99999 := Nat.le_trans (bareL_all _) h.pl
noncomputable def checkL (d : Df) : Int × ByteArray := runC (looksL d (cycleL d) (rejectL d))
/-- What Check answers. -/
theorem Check_any (d : Df) (a2 : Option Addr) (c2 : Nat) (a3 : Option Addr) (c3 : Nat) (a4 : Option Addr) (c4 : Nat) (a5 : Option Addr) (c5 : Nat) (a6 : Option Addr) (c6 : Nat) (w : World) (hd : RD d ⟨a2, c2, a3, c3, a4, c4, a5, c5, a6, c6⟩ w) (hs : Small d) :
    Calls Try.prog 14 #[.agg #[.string d.start, .string d.layout, .slice a2 d.prods.length c2, .slice a3 d.chains.length c3, .slice a4 d.follows.length c4, .slice a5 d.rejects.length c5, .slice a6 d.boxes.length c6]] w fun e w' => e = .returned (.tuple #[.int .i64 (checkL d).1, .string (checkL d).2]) ∧ Below w.heap.size w w' := by
  refine check_at d a2 c2 a3 c3 a4 c4 a5 c5 a6 c6 (cycleL d) (rejectL d) w hd hs.pl5 ?_
  intro bb as_ cs m n f1 e1 f2 e2 f3 e3 f4 e4 W hbk k1 l1 k2 l2 k3 l3 k4 l4 x hx
  unfold lkL at hx
  simp only [List.mem_cons, List.not_mem_nil, or_false] at hx
  rcases hx with rfl | rfl | rfl | rfl | rfl | rfl | rfl | rfl | rfl | rfl | rfl | rfl | rfl | rfl
  · exact ⟨(by intro args w; exact enters_of Try.func35 (by kernel_rfl) rfl args w), fun W2 hb => form_any d _ _ _ _ _ _ _ _ _ _ _ _ _ _ bb W2 (hbk.below hb)⟩
  · exact ⟨(by intro args w; exact enters_of Try.func36 (by kernel_rfl) rfl args w), fun W2 hb => mixed_any d _ _ _ _ _ _ _ _ _ _ _ _ _ _ bb W2 (hbk.below hb)⟩
  · exact ⟨(by intro args w; exact enters_of Try.func37 (by kernel_rfl) rfl args w), fun W2 hb => ends_any d _ _ _ _ _ _ _ _ _ _ _ _ _ _ bb W2 (hbk.below hb)⟩
  · exact ⟨(by intro args w; exact enters_of Try.func38 (by kernel_rfl) rfl args w), fun W2 hb => undef_any d _ _ _ _ _ _ _ _ _ _ _ _ _ _ bb W2 (hbk.below hb) hs.ul hs.sl5⟩
  · exact ⟨(by intro args w; exact enters_of Try.func69 (by kernel_rfl) rfl args w), fun W2 hb => each1_at d _ _ _ _ _ _ _ _ _ _ _ _ _ _ bb f1 e1 40 44 (kindB d) (by intro args w; exact enters_of Try.func40 (by kernel_rfl) rfl args w) W2 (hbk.below hb) (k1.below hb) (l1.below hb) (fun W3 x ap cp hx hxo hb3 hr => kind_any d _ _ _ _ _ _ _ _ _ _ _ _ _ _ bb x ap cp W3 hb3 hr)⟩
  · exact ⟨(by intro args w; exact enters_of Try.func41 (by kernel_rfl) rfl args w), fun W2 hb => cons_any d _ _ _ _ _ _ _ _ _ _ _ _ _ _ bb W2 (hbk.below hb)⟩
  · exact ⟨(by intro args w; exact enters_of Try.func69 (by kernel_rfl) rfl args w), fun W2 hb => each1_at d _ _ _ _ _ _ _ _ _ _ _ _ _ _ bb f2 e2 42 46 (bracketB) (by intro args w; exact enters_of Try.func42 (by kernel_rfl) rfl args w) W2 (hbk.below hb) (k2.below hb) (l2.below hb) (fun W3 x ap cp hx hxo hb3 hr => bracket_any bb x ap cp W3 hr (hs.sl5 x hx))⟩
  · exact ⟨(by intro args w; exact enters_of Try.func69 (by kernel_rfl) rfl args w), fun W2 hb => each1_at d _ _ _ _ _ _ _ _ _ _ _ _ _ _ bb f3 e3 43 2 (longB d) (by intro args w; exact enters_of Try.func43 (by kernel_rfl) rfl args w) W2 (hbk.below hb) (k3.below hb) (l3.below hb) (fun W3 x ap cp hx hxo hb3 hr => long_any d _ _ _ _ _ _ _ _ _ _ _ _ _ _ bb x ap cp W3 hb3 hr (hs.sl x hx))⟩
  · exact ⟨(by intro args w; exact enters_of Try.func69 (by kernel_rfl) rfl args w), fun W2 hb => each1_at d _ _ _ _ _ _ _ _ _ _ _ _ _ _ bb f4 e4 44 47 (nullB) (by intro args w; exact enters_of Try.func44 (by kernel_rfl) rfl args w) W2 (hbk.below hb) (k4.below hb) (l4.below hb) (fun W3 x ap cp hx hxo hb3 hr => null_any bb x ap cp W3 hr)⟩
  · exact ⟨(by intro args w; exact enters_of Try.func45 (by kernel_rfl) rfl args w), fun W2 hb => cycle_any d _ _ _ _ _ _ _ _ _ _ _ _ _ _ bb W2 (hbk.below hb) hs.al hs.pl5 hs.sl5⟩
  · exact ⟨(by intro args w; exact enters_of Try.func46 (by kernel_rfl) rfl args w), fun W2 hb => reject_any d _ _ _ _ _ _ _ _ _ _ _ _ _ _ bb W2 (hbk.below hb) hs.pl5 hs.nl hs.sl5 hs.rl⟩
  · exact ⟨(by intro args w; exact enters_of Try.func47 (by kernel_rfl) rfl args w), fun W2 hb => prio_any d _ _ _ _ _ _ _ _ _ _ _ _ _ _ bb W2 (hbk.below hb) hs.ct⟩
  · exact ⟨(by intro args w; exact enters_of Try.func48 (by kernel_rfl) rfl args w), fun W2 hb => follow_any d _ _ _ _ _ _ _ _ _ _ _ _ _ _ bb W2 (hbk.below hb)⟩
  · exact ⟨(by intro args w; exact enters_of Try.func49 (by kernel_rfl) rfl args w), fun W2 hb => box_any d _ _ _ _ _ _ _ _ _ _ _ _ _ _ bb W2 (hbk.below hb) hs.sl5 hs.bl⟩
end Go.Proofs.Ytalicfpcmcbdbaa

set_option linter.unusedVariables false
set_option linter.unusedSimpArgs false
set_option linter.unnecessarySimpa false
set_option linter.deprecated false
namespace Go.Proofs.Ytalicfpcmcbdbaa
open Go.RowKit

theorem firstG_ok {α : Type} (c : Int) (hc : c ≠ 0) (p : α → Bool) (nm : α → ByteArray) : ∀ l : List α, (firstG c p nm l).1 = 0 ↔ ∀ x ∈ l, p x = false
  | [] => by simp [firstG, okL]
  | x :: r => by
    rw [firstG]
    by_cases h : p x = true
    · rw [if_pos h]
      exact ⟨fun e => absurd e hc, fun e => by have := e x (List.mem_cons_self ..); rw [h] at this; cases this⟩
    · rw [if_neg h, firstG_ok c hc p nm r]
      exact ⟨fun e y hy => (List.mem_cons.1 hy).elim (fun e2 => by rw [e2]; simpa using h) (e y), fun e y hy => e y (List.mem_cons_of_mem _ hy)⟩
theorem firstL_ok (c : Int) (hc : c ≠ 0) (p : ByteArray → Bool) : ∀ l : List ByteArray, (firstL c p l).1 = 0 ↔ ∀ x ∈ l, p x = false
  | [] => by simp [firstL, okL]
  | x :: r => by
    rw [firstL]
    by_cases h : p x = true
    · rw [if_pos h]
      exact ⟨fun e => absurd e hc, fun e => by have := e x (List.mem_cons_self ..); rw [h] at this; cases this⟩
    · rw [if_neg h, firstL_ok c hc p r]
      exact ⟨fun e y hy => (List.mem_cons.1 hy).elim (fun e2 => by rw [e2]; simpa using h) (e y), fun e y hy => e y (List.mem_cons_of_mem _ hy)⟩
theorem firstI_ok {α : Type} (c : Int) (hc : c ≠ 0) (p : Nat → α → Bool) (nm : α → ByteArray) : ∀ (l : List α) (s : Nat), (firstI c p nm l s).1 = 0 ↔ ∀ k (h : k < l.length), p (s + k) l[k] = false
  | [], s => by simp [firstI, okL]
  | x :: r, s => by
    rw [firstI]
    by_cases h : p s x = true
    · rw [if_pos h]
      exact ⟨fun e => absurd e hc, fun e => by have := e 0 (by simp); simp only [Nat.add_zero, List.getElem_cons_zero] at this; rw [h] at this; cases this⟩
    · rw [if_neg h, firstI_ok c hc p nm r (s + 1)]
      constructor
      · intro e k hk
        match k, hk with
        | 0, _ => simpa using h
        | k + 1, hk => have := e k (by simpa using hk); rw [show s + (k + 1) = s + 1 + k by omega]; simpa using this
      · intro e k hk
        have := e (k + 1) (by simpa using hk)
        rw [show s + (k + 1) = s + 1 + k by omega] at this
        simpa using this
theorem prioG_ok (f : List Gp → Option ByteArray) : ∀ l : List (List Gp), (prioG f l).1 = 0 ↔ ∀ x ∈ l, f x = none
  | [] => by simp [prioG, okL]
  | x :: r => by
    rw [prioG]
    cases h : f x with
    | some s => exact ⟨fun e => absurd (show (50 : Int) = 0 from e) (by decide), fun e => by have := e x (List.mem_cons_self ..); rw [h] at this; cases this⟩
    | none =>
      simp only
      rw [prioG_ok f r]
      exact ⟨fun e y hy => (List.mem_cons.1 hy).elim (fun e2 => by rw [e2]; exact h) (e y), fun e y hy => e y (List.mem_cons_of_mem _ hy)⟩
theorem runC_ok : ∀ l : List (Int × ByteArray), (runC l).1 = 0 ↔ ∀ x ∈ l, x.1 = 0
  | [] => by simp [runC, okL]
  | x :: r => by
    rw [runC]
    by_cases h : x.1 = 0
    · rw [if_pos h, runC_ok r]
      exact ⟨fun e y hy => (List.mem_cons.1 hy).elim (fun e2 => by rw [e2]; exact h) (e y), fun e y hy => e y (List.mem_cons_of_mem _ hy)⟩
    · rw [if_neg h]
      exact ⟨fun e => absurd e h, fun e => e x (List.mem_cons_self ..)⟩
/-- A definition is right. -/
structure OkD (d : Df) : Prop where
  form : rightDfB d = true
  mixed : ∀ s ∈ sortsL d.prods, lexOf d.prods s ≠ 3
  start : lexOf d.prods d.start = 2
  layout : emp d.layout = true ∨ lexOf d.prods d.layout = 1
  undef : ∀ s ∈ usedL d, lexOf d.prods s ≠ 0
  kind : ∀ p ∈ d.prods, kindB d p = false
  cons : ∀ k (h : k < d.prods.length), consHit d k d.prods[k] = false
  brack : ∀ p ∈ d.prods, bracketB p = false
  long : ∀ p ∈ d.prods, longB d p = false
  null : ∀ p ∈ d.prods, nullB p = false
  cycle : ∀ s ∈ sortsL d.prods, ¬ Reach d.prods bareL s s
  rej : ∀ k (h : k < d.rejects.length), rejHit d k d.rejects[k] = false
  prio : ∀ ch ∈ d.chains, prioF d ch = none
  follow : ∀ f ∈ d.follows, f.set ≠ zS
  box : ∀ k (h : k < d.boxes.length), boxHit d k d.boxes[k] = false
open Classical in
theorem check_ok (d : Df) : (checkL d).1 = 0 ↔ OkD d := by
  unfold checkL
  rw [runC_ok]
  unfold looksL
  simp only [List.mem_cons, List.not_mem_nil, or_false, forall_eq_or_imp, forall_eq]
  unfold mixedL undefL consLk cycleL rejectL prioL followL boxL
  rw [firstL_ok 42 (by decide), firstL_ok 43 (by decide), firstG_ok 44 (by decide), firstI_ok 45 (by decide), firstG_ok 46 (by decide), firstG_ok 2 (by decide), firstG_ok 47 (by decide), firstL_ok 48 (by decide), firstI_ok 49 (by decide), prioG_ok, firstG_ok 51 (by decide), firstI_ok 52 (by decide)]
  simp only [Nat.zero_add, decide_eq_false_iff_not]
  have hf : (formL d).1 = 0 ↔ rightDfB d = true := by
    unfold formL
    by_cases h : rightDfB d = true
    · rw [if_pos h]; simp [okL, h]
    · rw [if_neg h]; simp [h]
  have he : (endsL d).1 = 0 ↔ lexOf d.prods d.start = 2 ∧ (emp d.layout = true ∨ lexOf d.prods d.layout = 1) := by
    unfold endsL
    by_cases h : lexOf d.prods d.start = 2
    · rw [if_pos h]
      by_cases h2 : emp d.layout = true ∨ lexOf d.prods d.layout = 1
      · rw [if_pos h2]; exact ⟨fun _ => ⟨h, h2⟩, fun _ => rfl⟩
      · rw [if_neg h2]; exact ⟨fun e => absurd (show (41 : Int) = 0 from e) (by decide), fun e => absurd e.2 h2⟩
    · rw [if_neg h]; exact ⟨fun e => absurd (show (40 : Int) = 0 from e) (by decide), fun e => absurd e.1 h⟩
  rw [hf, he]
  constructor
  · rintro ⟨h1, h2, ⟨h3, h4⟩, h5, h6, h7, h8, h9, h10, h11, h12, h13, h14, h15⟩
    exact ⟨h1, h2, h3, h4, h5, h6, h7, h8, h9, h10, h11, h12, h13, h14, h15⟩
  · rintro ⟨h1, h2, h3, h4, h5, h6, h7, h8, h9, h10, h11, h12, h13, h14, h15⟩
    exact ⟨h1, h2, ⟨h3, h4⟩, h5, h6, h7, h8, h9, h10, h11, h12, h13, h14, h15⟩
end Go.Proofs.Ytalicfpcmcbdbaa
