/- What is reached, plain. -/
import Derived.Test.YtalicfpcmcbdbaaZBook
set_option linter.unusedVariables false
set_option linter.unusedSimpArgs false
set_option linter.unnecessarySimpa false
set_option linter.deprecated false
namespace Go.Proofs.Ytalicfpcmcbdbaa
open Go.RowKit

/-- What is reached from a name by steps. -/
inductive Reach (ps : List Pd) (stp : Pd → List ByteArray) (from_ : ByteArray) : ByteArray → Prop where
  | one {p : Pd} {n : ByteArray} (hp : p ∈ ps) (hs : p.sort = from_) (hn : n ∈ stp p) : Reach ps stp from_ n
  | more {p : Pd} {m n : ByteArray} (h : Reach ps stp from_ m) (hp : p ∈ ps) (hs : p.sort = m) (hn : n ∈ stp p) : Reach ps stp from_ n
def Closed (ps : List Pd) (stp : Pd → List ByteArray) (x : ByteArray) (met : List ByteArray) : Prop := ∀ p ∈ ps, p.sort = x → ∀ n ∈ stp p, n ∈ met
theorem Closed.mono {ps : List Pd} {stp : Pd → List ByteArray} {x : ByteArray} {met met' : List ByteArray} (h : Closed ps stp x met) (hm : ∀ n ∈ met, n ∈ met') : Closed ps stp x met' := fun p hp hs n hn => hm n (h p hp hs n hn)
/-- How many places of all names are not met yet. -/
def unm (all met : List ByteArray) : Nat := (all.filter (fun n => !inB n met)).length
theorem filter_le_of {α : Type} (f g : α → Bool) (h : ∀ x, f x = true → g x = true) : ∀ (l : List α), (l.filter f).length ≤ (l.filter g).length
  | [] => Nat.le_refl _
  | x :: xs => by
    have ih := filter_le_of f g h xs
    cases hf : f x
    · cases hg : g x <;> simp [hf, hg] <;> omega
    · simp [hf, h x hf]
      exact ih
theorem filter_lt_of {α : Type} (f g : α → Bool) (h : ∀ x, f x = true → g x = true) : ∀ (l : List α) (y : α), y ∈ l → f y = false → g y = true → (l.filter f).length + 1 ≤ (l.filter g).length
  | [], y, hy, _, _ => by cases hy
  | x :: xs, y, hy, hf, hg => by
    rcases List.mem_cons.1 hy with rfl | hy
    · have := filter_le_of f g h xs
      simp [hf, hg]
      exact this
    · have ih := filter_lt_of f g h xs y hy hf hg
      cases hfx : f x
      · cases hgx : g x <;> simp [hfx, hgx] <;> omega
      · simp [hfx, h x hfx]
        omega
theorem unm_add (all met : List ByteArray) (n : ByteArray) (hn : n ∈ all) (hm : inB n met = false) : unm all (met ++ [n]) + 1 ≤ unm all met := by
  unfold unm
  refine filter_lt_of _ _ (fun x hx => ?_) all n hn ?_ ?_
  · cases h : inB x met
    · rfl
    · have h2 : inB x (met ++ [n]) = true := (inB_iff _ _).2 (List.mem_append_left _ ((inB_iff _ _).1 h))
      rw [h2] at hx
      cases hx
  · have h2 : inB n (met ++ [n]) = true := (inB_iff _ _).2 (by simp)
    rw [h2]; rfl
  · rw [hm]; rfl
/-- What holds of what is met and of what is still to do, while the productions of a sort are gone through. -/
structure RcI (ps : List Pd) (stp : Pd → List ByteArray) (from_ at_ : ByteArray) (met todo : List ByteArray) : Prop where
  a : ∀ n ∈ met, Reach ps stp from_ n
  b : ∀ t ∈ todo, t = from_ ∨ t ∈ met
  c : ∀ x, (x = from_ ∨ x ∈ met) → x ∈ todo ∨ x = at_ ∨ Closed ps stp x met
  d : at_ = from_ ∨ at_ ∈ met
theorem RcI.reach {ps : List Pd} {stp : Pd → List ByteArray} {from_ at_ : ByteArray} {met todo : List ByteArray} (h : RcI ps stp from_ at_ met todo) {p : Pd} (hp : p ∈ ps) (hs : p.sort = at_) {n : ByteArray} (hn : n ∈ stp p) : Reach ps stp from_ n := by
  rcases h.d with e | e
  · exact .one hp (hs.trans e) hn
  · exact .more (h.a _ e) hp hs hn
theorem RcI.add {ps : List Pd} {stp : Pd → List ByteArray} {from_ at_ : ByteArray} {met todo : List ByteArray} (h : RcI ps stp from_ at_ met todo) {n : ByteArray} (hr : Reach ps stp from_ n) : RcI ps stp from_ at_ (met ++ [n]) (todo ++ [n]) := by
  refine ⟨fun x hx => ?_, fun t ht => ?_, fun x hx => ?_, ?_⟩
  · rcases List.mem_append.1 hx with hx | hx
    · exact h.a x hx
    · simp at hx; subst hx; exact hr
  · rcases List.mem_append.1 ht with ht | ht
    · rcases h.b t ht with e | e
      · exact Or.inl e
      · exact Or.inr (List.mem_append_left _ e)
    · exact Or.inr (List.mem_append_right _ ht)
  · have key : ∀ hx : x = from_ ∨ x ∈ met, x ∈ todo ++ [n] ∨ x = at_ ∨ Closed ps stp x (met ++ [n]) := by
      intro hx
      rcases h.c x hx with e | e | e
      · exact Or.inl (List.mem_append_left _ e)
      · exact Or.inr (Or.inl e)
      · exact Or.inr (Or.inr (e.mono fun n hn => List.mem_append_left _ hn))
    rcases hx with hx | hx
    · exact key (Or.inl hx)
    · rcases List.mem_append.1 hx with hx | hx
      · exact key (Or.inr hx)
      · exact Or.inl (List.mem_append_right _ hx)
  · rcases h.d with e | e
    · exact Or.inl e
    · exact Or.inr (List.mem_append_left _ e)
/-- What holds at the head of the outer loop. -/
structure RcO (ps : List Pd) (stp : Pd → List ByteArray) (from_ : ByteArray) (met todo : List ByteArray) : Prop where
  a : ∀ n ∈ met, Reach ps stp from_ n
  b : ∀ t ∈ todo, t = from_ ∨ t ∈ met
  c : ∀ x, (x = from_ ∨ x ∈ met) → x ∈ todo ∨ Closed ps stp x met
theorem RcO.start (ps : List Pd) (stp : Pd → List ByteArray) (from_ : ByteArray) : RcO ps stp from_ [] [from_] :=
  ⟨fun n h => (by cases h), fun t h => Or.inl (by simpa using h), fun x h => Or.inl (by rcases h with h | h <;> simp_all)⟩
theorem RcO.pop {ps : List Pd} {stp : Pd → List ByteArray} {from_ at_ : ByteArray} {met todo : List ByteArray} (h : RcO ps stp from_ met (todo ++ [at_])) : RcI ps stp from_ at_ met todo :=
  ⟨h.a, fun t ht => h.b t (List.mem_append_left _ ht), fun x hx => by
    rcases h.c x hx with e | e
    · rcases List.mem_append.1 e with e | e
      · exact Or.inl e
      · exact Or.inr (Or.inl (by simpa using e))
    · exact Or.inr (Or.inr e), h.b at_ (by simp)⟩
theorem RcI.done {ps : List Pd} {stp : Pd → List ByteArray} {from_ at_ : ByteArray} {met todo : List ByteArray} (h : RcI ps stp from_ at_ met todo) (hc : Closed ps stp at_ met) : RcO ps stp from_ met todo :=
  ⟨h.a, h.b, fun x hx => by
    rcases h.c x hx with e | e | e
    · exact Or.inl e
    · subst e; exact Or.inr hc
    · exact Or.inr e⟩
theorem RcO.out {ps : List Pd} {stp : Pd → List ByteArray} {from_ : ByteArray} {met : List ByteArray} (h : RcO ps stp from_ met []) (s : ByteArray) : s ∈ met ↔ Reach ps stp from_ s := by
  have hcl : ∀ x, (x = from_ ∨ x ∈ met) → Closed ps stp x met := fun x hx => by
    rcases h.c x hx with e | e
    · cases e
    · exact e
  constructor
  · exact h.a s
  · intro hr
    induction hr with
    | one hp hs hn => exact hcl from_ (Or.inl rfl) _ hp hs _ hn
    | more _ hp hs hn ih => exact hcl _ (Or.inr ih) _ hp hs _ hn
def metF (met : List ByteArray) : ByteArray → Int := fun s => if inB s met = true then 1 else 0
theorem metF_add (met : List ByteArray) (n : ByteArray) : metF (met ++ [n]) = upd (metF met) n 1 := by
  funext s
  unfold metF upd
  by_cases e : s = n
  · subst e
    rw [if_pos rfl, if_pos ((inB_iff _ _).2 (by simp))]
  · rw [if_neg e]
    have : inB s (met ++ [n]) = inB s met := by
      rw [Bool.eq_iff_iff, inB_iff, inB_iff]
      simp [e]
    rw [this]
theorem metF_nil : metF [] = fun _ => 0 := by funext s; rfl
end Go.Proofs.Ytalicfpcmcbdbaa
