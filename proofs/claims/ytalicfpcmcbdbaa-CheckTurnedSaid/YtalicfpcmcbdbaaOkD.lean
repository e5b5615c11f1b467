/- When Check tells nothing. -/
import Derived.Test.YtalicfpcmcbdbaaChw
set_option linter.unusedVariables false
set_option linter.unusedSimpArgs false
set_option linter.unnecessarySimpa false
set_option linter.deprecated false
namespace Go.Proofs.Ytalicfpcmcbdbaa
open Go.RowKit

theorem firstG_ok {α : Type} (c : Int) (hc : c ≠ 0) (p : α → Bool) (nm : α → ByteArray) : ∀ l : List α, (firstG c p nm l).1 = 0 ↔ ∀ x ∈ l, p x = false
  | [] => by simp [firstG, okL]
  | x :: r => by
    rw [firstG]
    by_cases h : p x = true
    · rw [if_pos h]
      exact ⟨fun e => absurd e hc, fun e => by have := e x (List.mem_cons_self ..); rw [h] at this; cases this⟩
    · rw [if_neg h, firstG_ok c hc p nm r]
      exact ⟨fun e y hy => (List.mem_cons.1 hy).elim (fun e2 => by rw [e2]; simpa using h) (e y), fun e y hy => e y (List.mem_cons_of_mem _ hy)⟩
theorem firstL_ok (c : Int) (hc : c ≠ 0) (p : ByteArray → Bool) : ∀ l : List ByteArray, (firstL c p l).1 = 0 ↔ ∀ x ∈ l, p x = false
  | [] => by simp [firstL, okL]
  | x :: r => by
    rw [firstL]
    by_cases h : p x = true
    · rw [if_pos h]
      exact ⟨fun e => absurd e hc, fun e => by have := e x (List.mem_cons_self ..); rw [h] at this; cases this⟩
    · rw [if_neg h, firstL_ok c hc p r]
      exact ⟨fun e y hy => (List.mem_cons.1 hy).elim (fun e2 => by rw [e2]; simpa using h) (e y), fun e y hy => e y (List.mem_cons_of_mem _ hy)⟩
theorem firstI_ok {α : Type} (c : Int) (hc : c ≠ 0) (p : Nat → α → Bool) (nm : α → ByteArray) : ∀ (l : List α) (s : Nat), (firstI c p nm l s).1 = 0 ↔ ∀ k (h : k < l.length), p (s + k) l[k] = false
  | [], s => by simp [firstI, okL]
  | x :: r, s => by
    rw [firstI]
    by_cases h : p s x = true
    · rw [if_pos h]
      exact ⟨fun e => absurd e hc, fun e => by have := e 0 (by simp); simp only [Nat.add_zero, List.getElem_cons_zero] at this; rw [h] at this; cases this⟩
    · rw [if_neg h, firstI_ok c hc p nm r (s + 1)]
      constructor
      · intro e k hk
        match k, hk with
        | 0, _ => simpa using h
        | k + 1, hk => have := e k (by simpa using hk); rw [show s + (k + 1) = s + 1 + k by omega]; simpa using this
      · intro e k hk
        have := e (k + 1) (by simpa using hk)
        rw [show s + (k + 1) = s + 1 + k by omega] at this
        simpa using this
theorem prioG_ok (f : List Gp → Option ByteArray) : ∀ l : List (List Gp), (prioG f l).1 = 0 ↔ ∀ x ∈ l, f x = none
  | [] => by simp [prioG, okL]
  | x :: r => by
    rw [prioG]
    cases h : f x with
    | some s => exact ⟨fun e => absurd (show (50 : Int) = 0 from e) (by decide), fun e => by have := e x (List.mem_cons_self ..); rw [h] at this; cases this⟩
    | none =>
      simp only
      rw [prioG_ok f r]
      exact ⟨fun e y hy => (List.mem_cons.1 hy).elim (fun e2 => by rw [e2]; exact h) (e y), fun e y hy => e y (List.mem_cons_of_mem _ hy)⟩
theorem runC_ok : ∀ l : List (Int × ByteArray), (runC l).1 = 0 ↔ ∀ x ∈ l, x.1 = 0
  | [] => by simp [runC, okL]
  | x :: r => by
    rw [runC]
    by_cases h : x.1 = 0
    · rw [if_pos h, runC_ok r]
      exact ⟨fun e y hy => (List.mem_cons.1 hy).elim (fun e2 => by rw [e2]; exact h) (e y), fun e y hy => e y (List.mem_cons_of_mem _ hy)⟩
    · rw [if_neg h]
      exact ⟨fun e => absurd e h, fun e => e x (List.mem_cons_self ..)⟩
/-- A definition is right. -/
structure OkD (d : Df) : Prop where
  form : rightDfB d = true
  mixed : ∀ s ∈ sortsL d.prods, lexOf d.prods s ≠ 3
  start : lexOf d.prods d.start = 2
  layout : emp d.layout = true ∨ lexOf d.prods d.layout = 1
  undef : ∀ s ∈ usedL d, lexOf d.prods s ≠ 0
  kind : ∀ p ∈ d.prods, kindB d p = false
  cons : ∀ k (h : k < d.prods.length), consHit d k d.prods[k] = false
  brack : ∀ p ∈ d.prods, bracketB p = false
  long : ∀ p ∈ d.prods, longB d p = false
  null : ∀ p ∈ d.prods, nullB p = false
  cycle : ∀ s ∈ sortsL d.prods, ¬ Reach d.prods bareL s s
  rej : ∀ k (h : k < d.rejects.length), rejHit d k d.rejects[k] = false
  prio : ∀ ch ∈ d.chains, prioF d ch = none
  follow : ∀ f ∈ d.follows, f.set ≠ zS
  box : ∀ k (h : k < d.boxes.length), boxHit d k d.boxes[k] = false
open Classical in
theorem check_ok (d : Df) : (checkL d).1 = 0 ↔ OkD d := by
  unfold checkL
  rw [runC_ok]
  unfold looksL
  simp only [List.mem_cons, List.not_mem_nil, or_false, forall_eq_or_imp, forall_eq]
  unfold mixedL undefL consLk cycleL rejectL prioL followL boxL
  rw [firstL_ok 42 (by decide), firstL_ok 43 (by decide), firstG_ok 44 (by decide), firstI_ok 45 (by decide), firstG_ok 46 (by decide), firstG_ok 2 (by decide), firstG_ok 47 (by decide), firstL_ok 48 (by decide), firstI_ok 49 (by decide), prioG_ok, firstG_ok 51 (by decide), firstI_ok 52 (by decide)]
  simp only [Nat.zero_add, decide_eq_false_iff_not]
  have hf : (formL d).1 = 0 ↔ rightDfB d = true := by
    unfold formL
    by_cases h : rightDfB d = true
    · rw [if_pos h]; simp [okL, h]
    · rw [if_neg h]; simp [h]
  have he : (endsL d).1 = 0 ↔ lexOf d.prods d.start = 2 ∧ (emp d.layout = true ∨ lexOf d.prods d.layout = 1) := by
    unfold endsL
    by_cases h : lexOf d.prods d.start = 2
    · rw [if_pos h]
      by_cases h2 : emp d.layout = true ∨ lexOf d.prods d.layout = 1
      · rw [if_pos h2]; exact ⟨fun _ => ⟨h, h2⟩, fun _ => rfl⟩
      · rw [if_neg h2]; exact ⟨fun e => absurd (show (41 : Int) = 0 from e) (by decide), fun e => absurd e.2 h2⟩
    · rw [if_neg h]; exact ⟨fun e => absurd (show (40 : Int) = 0 from e) (by decide), fun e => absurd e.1 h⟩
  rw [hf, he]
  constructor
  · rintro ⟨h1, h2, ⟨h3, h4⟩, h5, h6, h7, h8, h9, h10, h11, h12, h13, h14, h15⟩
    exact ⟨h1, h2, h3, h4, h5, h6, h7, h8, h9, h10, h11, h12, h13, h14, h15⟩
  · rintro ⟨h1, h2, h3, h4, h5, h6, h7, h8, h9, h10, h11, h12, h13, h14, h15⟩
    exact ⟨h1, h2, ⟨h3, h4⟩, h5, h6, h7, h8, h9, h10, h11, h12, h13, h14, h15⟩
end Go.Proofs.Ytalicfpcmcbdbaa
