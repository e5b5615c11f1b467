/- Regions that draw their order, walked in the text's order: what only reads is taken where it stands, whoever else may come up; the last operations wait for all others. -/
import Derived.Test.YtalicfpcmcbdbaaZData
import Derived.OrdersHeld
import Derived.StillTail
import Derived.Deep.RegionHeld3
set_option linter.unusedVariables false
set_option linter.unusedSimpArgs false
set_option linter.unnecessarySimpa false
set_option linter.deprecated false
namespace Go.Proofs.Ytalicfpcmcbdbaa
open Go.RowKit

section
variable {P : Program} {ops : Array Oper} {Q : Exit → Act → World → Prop} {md : Region.Mode} {S : World → Prop}
/-- Whatever comes up of the operations below n; behind each one S holds. -/
def wpHead (P : Program) (md : Region.Mode) (ops : Array Oper) (Q : Exit → Act → World → Prop) (S : World → Prop) (n : Nat) (L : Array Bool → Act → World → Prop) : Nat → Array Bool → Act → World → Prop
  | 0, listed, a, w => L listed a w
  | f + 1, listed, a, w => Region.ready md ops listed ≠ [] ∧ ∀ i ∈ Region.ready md ops listed, i < n ∧ wpOp P ops Q i (fun a' w' => S w' ∧ wpHead P md ops Q S n L f (listed.setIfInBounds i true) a' w') a w
theorem wpAny_of_wpHead {n g : Nat} {L : Array Bool → Act → World → Prop} (hL : ∀ listed a w, L listed a w → wpAny P md ops Q g listed a w) :
    ∀ (f : Nat) (listed : Array Bool) (a : Act) (w : World), wpHead P md ops Q S n L f listed a w → wpAny P md ops Q (f + g) listed a w
  | 0, listed, a, w, h => by rw [Nat.zero_add]; exact hL _ _ _ h
  | f + 1, listed, a, w, h => by
    rw [show f + 1 + g = (f + g) + 1 by omega]
    exact ⟨fun h0 => absurd h0 h.1, fun i hi => wpOp_mono (fun a' w' h' => wpAny_of_wpHead hL f _ a' w' h'.2) (h.2 i hi).2⟩
theorem wpHead_first {n i : Nat} {oi : Oper} {v : Value} {L : Array Bool → Act → World → Prop} (hi : ops[i]? = some oi) (hsel : ∀ (j : Nat) (o : Oper) cs b, ops[j]? = some o → o.op ≠ .select cs b)
    (hQ : ∀ c a w, Q (.panic c) (a.put oi.dst v) w → Q (.panic c) a w)
    (hs : Region.sinkB md ops n = true) (hc : Region.chainB md ops n = true) (hn : n < ops.size) (hin : i < n)
    (hdone : ∀ listed a w, L listed a w → ∀ j ∈ Region.ready md ops listed, n ≤ j) :
    ∀ (f : Nat) (listed : Array Bool) (a : Act) (w : World), HeadInv md ops n listed →
      (∀ j oj, ops[j]? = some oj → j ≠ i → listed.getD j true = false → (∀ e ∈ oj.after, Region.binds md e = true → e.on ≠ i) → oi.apart ops oj = true) →
      i ∈ Region.ready md ops listed → YieldsIf P ops S oi v a → S w →
      wpHead P md ops Q S n L f (listed.setIfInBounds i true) (a.put oi.dst v) w → wpHead P md ops Q S n L (f + 1) listed a w := by
  intro f
  induction f with
  | zero =>
    intro listed a w inv _ hr hy hS H
    have hun := (mem_ready.1 hr).1
    refine ⟨fun h => (by rw [h] at hr; cases hr), fun j hj => ?_⟩
    have hjn : j < n := by
      rcases Nat.lt_or_ge j n with h | h
      · exact h
      · exact absurd hj (tail_waits hs hc hn inv _ i rfl hin hun j h)
    refine ⟨hjn, ?_⟩
    by_cases hji : j = i
    · subst hji; exact hy.wpOp hi hS ⟨hS, H⟩
    · have := hdone _ _ _ H j (ready_mono hj hji)
      omega
  | succ f ih =>
    intro listed a w inv hfree hr hy hS H
    have hun := (mem_ready.1 hr).1
    refine ⟨fun h => (by rw [h] at hr; cases hr), fun j hj => ?_⟩
    have hjn : j < n := by
      rcases Nat.lt_or_ge j n with h | h
      · exact h
      · exact absurd hj (tail_waits hs hc hn inv _ i rfl hin hun j h)
    refine ⟨hjn, ?_⟩
    by_cases hji : j = i
    · subst hji; exact hy.wpOp hi hS ⟨hS, H⟩
    · have h1 := (H.2 j (ready_mono hj hji)).2
      obtain ⟨hjun, oj, hoj, hall⟩ := mem_ready.1 hj
      have hnot : ∀ e ∈ oj.after, Region.binds md e = true → e.on ≠ i := fun e he hb heq => by
        have h1 := hall e he hb
        rw [heq, getD_both hun] at h1
        cases h1
      have h2 := wpOp_putIf hoj (hfree j oj hoj hji hjun hnot) (fun cs b => hsel i oi cs b hi) (fun cs b => hsel j oj cs b hoj) hQ hy h1
      have hfree' : ∀ k ok, ops[k]? = some ok → k ≠ i → (listed.setIfInBounds j true).getD k true = false →
          (∀ e ∈ ok.after, Region.binds md e = true → e.on ≠ i) → oi.apart ops ok = true := fun k ok hk hki hun hno => by
        refine hfree k ok hk hki ?_ hno
        by_cases hjk : j = k
        · subst hjk; exact hjun
        · rw [getD_set_ne true hjk] at hun; exact hun
      refine wpOp_mono (fun a' w' h3 => ⟨h3.2.1, ih (listed.setIfInBounds j true) a' w' (inv.set hj hjn) hfree' (ready_mono hr (Ne.symm hji)) h3.1 h3.2.1 ?_⟩) h2
      rw [Array.setIfInBounds_comm _ _ hji]
      exact h3.2.2
/-- One operation behind the other, each marked: true, it is taken where it stands; false, it alone may come up. -/
def wpLex (P : Program) (ops : Array Oper) (Q : Exit → Act → World → Prop) (S : World → Prop) (Lq : Act → World → Prop) : List (Bool × Oper) → Act → World → Prop
  | [], a, w => Lq a w
  | (true, o) :: r, a, w => ∃ v, YieldsIf P ops S o v a ∧ wpLex P ops Q S Lq r (a.put o.dst v) w
  | (false, o) :: r, a, w => if Region.wanted o (yielded ops a.tmps) then o.wp P a w (fun a' w' => S w' ∧ wpLex P ops Q S Lq r a' w') Q ∨ (o.asks P a w ∧ LetsOut Q) else S w ∧ wpLex P ops Q S Lq r (a.put o.dst undef) w
/-- The order in which they are gone through: the operation's number, and its mark. -/
def lexB (md : Region.Mode) (ops : Array Oper) (g n : Nat) : List (Nat × Bool) → Array Bool → Bool
  | [], listed => Region.seqB md ops g n listed
  | (k, true) :: f, listed => decide (k < n) && (Region.ready md ops listed).contains k && Region.free md ops listed k && lexB md ops g n f (listed.setIfInBounds k true)
  | (k, false) :: f, listed => decide (k < n) && decide (Region.ready md ops listed = [k]) && lexB md ops g n f (listed.setIfInBounds k true)
def lexAllB (md : Region.Mode) (ops : Array Oper) (n : Nat) (ms : List (Nat × Bool)) : Bool :=
  Region.noSelect ops && decide (n < ops.size) && Region.sinkB md ops n && Region.chainB md ops n && lexB md ops (ops.size - n) n ms (Array.replicate ops.size false)
def lexOps (ops : List Oper) (ms : List (Nat × Bool)) : List (Bool × Oper) := ms.filterMap (fun p => (ops[p.1]?).map (fun o => (p.2, o)))
theorem wpHead_lex {l : List Oper} {n g : Nat} {Lq : Act → World → Prop} (hsel : Region.noSelect l.toArray = true) (hs : Region.sinkB md l.toArray n = true) (hc : Region.chainB md l.toArray n = true) (hn : n < l.toArray.size) (hQ : ∀ c a d v w, Q (.panic c) (a.put d v) w → Q (.panic c) a w) :
    ∀ (ms : List (Nat × Bool)) (listed : Array Bool) (a : Act) (w : World), HeadInv md l.toArray n listed →
    lexB md l.toArray g n ms listed = true → S w → wpLex P l.toArray Q S Lq (lexOps l ms) a w →
    wpHead P md l.toArray Q S n (fun listed' a' w' => Region.seqB md l.toArray g n listed' = true ∧ Lq a' w') ms.length listed a w
  | [], listed, a, w, _, hB, _, h => ⟨by simpa [lexB] using hB, h⟩
  | (k, m) :: ms, listed, a, w, inv, hB, hS, h => by
    have hkn : k < n := by cases m <;> simp only [lexB, Bool.and_eq_true, decide_eq_true_eq] at hB <;> first | exact hB.1.1.1 | exact hB.1.1
    have hkl : k < l.length := Nat.lt_trans hkn (by simpa using hn)
    have h0 : l.toArray[k]? = some l[k] := by simp [hkl]
    have hops : lexOps l ((k, m) :: ms) = (m, l[k]) :: lexOps l ms := by unfold lexOps; rw [List.filterMap_cons]; simp [hkl]
    rw [hops] at h
    cases m with
    | true =>
      simp only [lexB, Bool.and_eq_true] at hB
      obtain ⟨⟨⟨_, hr⟩, hf⟩, hB'⟩ := hB
      have hr' : k ∈ Region.ready md l.toArray listed := by simpa using hr
      obtain ⟨v, hy, hK⟩ := h
      exact wpHead_first h0 (Region.noSelect_spec hsel) (fun c a w => hQ c a _ v w) hs hc hn hkn (fun listed' a' w' hL => seqB_ready hL.1) ms.length listed a w inv (Region.free_spec h0 hf) hr' hy hS
        (wpHead_lex hsel hs hc hn hQ ms _ _ w (inv.set hr' hkn) hB' hS hK)
    | false =>
      simp only [lexB, Bool.and_eq_true, decide_eq_true_eq] at hB
      obtain ⟨⟨_, hr⟩, hB'⟩ := hB
      have hr' : k ∈ Region.ready md l.toArray listed := by rw [hr]; simp
      refine ⟨by rw [hr]; simp, fun i hi => ?_⟩
      rw [hr] at hi
      have hik : i = k := by simpa using hi
      subst hik
      refine ⟨hkn, ?_⟩
      have go : ∀ a' w', S w' ∧ wpLex P l.toArray Q S Lq (lexOps l ms) a' w' → S w' ∧ wpHead P md l.toArray Q S n (fun listed' a' w' => Region.seqB md l.toArray g n listed' = true ∧ Lq a' w') ms.length (listed.setIfInBounds i true) a' w' :=
        fun a' w' h3 => ⟨h3.1, wpHead_lex hsel hs hc hn hQ ms _ a' w' (inv.set hr' hkn) hB' h3.1 h3.2⟩
      have h' : if Region.wanted l[i] (yielded l.toArray a.tmps) then l[i].wp P a w (fun a' w' => S w' ∧ wpLex P l.toArray Q S Lq (lexOps l ms) a' w') Q ∨ (l[i].asks P a w ∧ LetsOut Q) else S w ∧ wpLex P l.toArray Q S Lq (lexOps l ms) (a.put l[i].dst undef) w := h
      unfold wpOp
      simp only [h0]
      split
      · rename_i hw
        rw [if_pos hw] at h'
        exact h'.imp (Oper.wp_mono go) id
      · rename_i hw
        rw [if_neg hw] at h'
        exact go _ _ h'
/-- The beginning. -/
theorem wp_region_lex {id : Nat} {a : Act} {w : World} {l : List Oper} (n : Nat) (ms : List (Nat × Bool)) (S : World → Prop) (hn : ms.length = n) (hm : P.follows .mixedOrders = true) (hB : lexAllB .any l.toArray n ms = true) (hQ : ∀ c a d v w, Q (.panic c) (a.put d v) w → Q (.panic c) a w) (hS : S w.drew)
    (h : S w.drew → wpLex P l.toArray Q S (fun a' w' => wpList P l.toArray Q (l.drop n) a' w') (lexOps l ms) a w.drew) : (Code.region id l.toArray true).wp P Q a w := by
  simp only [lexAllB, Bool.and_eq_true, decide_eq_true_eq] at hB
  obtain ⟨⟨⟨⟨hsel, hn'⟩, hs⟩, hc⟩, hlex⟩ := hB
  have hn2 : n < l.length := by simpa using hn'
  have hdl : (l.drop n).length = l.toArray.size - n := by simp
  have inv0 : HeadInv .any l.toArray n (Array.replicate l.toArray.size false) :=
    ⟨by simp, fun j oj _ hl => (by rw [getD_replicate_false] at hl; cases hl), fun t _ ht => getD_in (by simpa using ht) (getD_replicate_false _ _)⟩
  have H := wpHead_lex (md := .any) (g := l.toArray.size - n) hsel hs hc hn' hQ ms _ a w.drew inv0 hlex hS (h hS)
  refine wp_region_any hm ?_
  have := wpAny_of_wpHead (Q := Q) (S := S) (g := l.toArray.size - n) (fun listed a' w' hL => by
    have := wpAny_of_seq (md := .any) (Q' := Q) (l.drop n) n listed a' w' (fun j => by simp [List.getElem?_drop]) (by rw [hdl]; exact hL.1) hL.2
    rwa [hdl] at this) _ _ _ _ H
  rw [hn, show n + (l.toArray.size - n) = l.toArray.size by omega] at this
  exact this
variable {Lq : Act → World → Prop} {a : Act} {w : World} {r : List (Bool × Oper)} {o : Oper}
theorem wpLex_take {v : Value} (hw : Region.wanted o (yielded ops a.tmps) = true) (hr : ∀ w, S w → (execOp a.eval o).run P w = .ok (.value v) w) (h : wpLex P ops Q S Lq r (a.put o.dst v) w) : wpLex P ops Q S Lq ((true, o) :: r) a w := ⟨v, Or.inl ⟨hw, hr⟩, h⟩
theorem wpLex_skip (hw : Region.wanted o (yielded ops a.tmps) = false) (h : wpLex P ops Q S Lq r (a.put o.dst undef) w) : wpLex P ops Q S Lq ((true, o) :: r) a w := ⟨undef, Or.inr ⟨hw, rfl⟩, h⟩
theorem wpLex_step (h : ∀ K : Act → World → Prop, (∀ a w, S w → (S w → wpLex P ops Q S Lq r a w) → K a w) → if Region.wanted o (yielded ops a.tmps) then o.wp P a w K Q else K (a.put o.dst undef) w) : wpLex P ops Q S Lq ((false, o) :: r) a w := by
  have := h (fun a w => S w ∧ wpLex P ops Q S Lq r a w) (fun a w h1 h2 => ⟨h1, h2 h1⟩)
  show if Region.wanted o (yielded ops a.tmps) then o.wp P a w (fun a' w' => S w' ∧ wpLex P ops Q S Lq r a' w') Q ∨ (o.asks P a w ∧ LetsOut Q) else S w ∧ wpLex P ops Q S Lq r (a.put o.dst undef) w
  split
  · rename_i hw; rw [if_pos hw] at this; exact .inl this
  · rename_i hw; rw [if_neg hw] at this; exact this
theorem wpLex_nil (h : Lq a w) : wpLex P ops Q S Lq [] a w := h
end
end Go.Proofs.Ytalicfpcmcbdbaa
