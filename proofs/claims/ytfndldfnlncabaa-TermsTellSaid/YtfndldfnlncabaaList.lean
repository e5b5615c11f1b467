/- The walk of the reader's method list. -/
import Derived.Test.YtfndldfnlncabaaPeek
import Derived.Test.YtfndldfnlncabaaPlain
import Derived.Maps.AppendAt
import Derived.OwnWalk
namespace Go.Proofs.Ytfndldfnlncabaa
set_option linter.unnecessarySimpa false
set_option linter.deprecated false
open Go.RowKit
set_option linter.unusedVariables false
set_option linter.unusedSimpArgs false

/-- What term hands back. -/
def TermPost (g : Nat) (s : ByteArray) (B : Nat) (r : PR Tm) (e : Ending) (w' : World) : Prop :=
  match r with
  | .ok T l => ∃ v, e = .returned v ∧ RTo (fun k => B ≤ k) w' T v ∧ Rd w' g s (s.size - l.length)
  | .bad m code => e = faultP ((s.size - m : Nat) : Int) code

/-- What list hands back. -/
def RlPost (g : Nat) (s : ByteArray) (B : Nat) (r : PR (List Tm)) (e : Ending) (w' : World) : Prop :=
  match r with
  | .ok ks l => ∃ a cap, e = .returned (.slice a ks.length cap) ∧ RKo (fun k => B ≤ k) w' a ks ∧ Rd w' g s (s.size - l.length)
  | .bad m code => e = faultP ((s.size - m : Nat) : Int) code

/-- The contract of term with so many levels. -/
def TermOk (s : ByteArray) (n : Nat) : Prop := ∀ (g p : Nat) (w : World), p ≤ s.size → Rd w g s p → Calls Try.prog 40 #[.pointer (some ⟨g, 0, none⟩), .int .i64 (n : Int)] w fun e w' => TermPost g s w.heap.size (termL n (s.data.toList.drop p)) e w' ∧ Fr g w w'

theorem info25 : (Try.prog.info? 25).map (fun i => (i.zero, i.size, i.bytes)) = some (some (.agg #[.int .i64 0, .string ⟨#[]⟩, .slice none 0 0, .slice none 0 0]), 4, 72) := by kernel_rfl

/-- The cells of terms, one behind the other. -/
def cellsOf : List (Value × Value × Value × Value) → List Value
  | [] => []
  | (a, b, c, d) :: r => a :: b :: c :: d :: cellsOf r

/-- Terms in a row of the call's own: the row's cells, and each term's reading outside of the row. -/
structure OwnT (B : Nat) (ks : List Tm) (v : Value) (w : World) : Prop where
  ex : ∃ cs : List (Value × Value × Value × Value), cs.length = ks.length ∧ w.ownsRow B 25 4 v ks.length (cellsOf cs) ∧
    ∀ i (hi : i < ks.length), ∃ q, cs[i]? = some q ∧ RTo (fun k => B ≤ k ∧ some k ≠ v.ownBlock) w ks[i] (.agg #[q.1, q.2.1, q.2.2.1, q.2.2.2])

theorem OwnT.nil (B : Nat) (w : World) : OwnT B [] (.slice none 0 0) w := ⟨[], rfl, World.ownsRow_nil .., fun i hi => absurd hi (by simp)⟩

theorem cellsOf_len (cs : List (Value × Value × Value × Value)) : (cellsOf cs).length = cs.length * 4 := by
  induction cs with
  | nil => rfl
  | cons a cs ih =>
    obtain ⟨a, b, c, d⟩ := a
    simp only [cellsOf, List.length_cons, ih]
    omega
theorem cellsOf_append (cs ds : List (Value × Value × Value × Value)) : cellsOf (cs ++ ds) = cellsOf cs ++ cellsOf ds := by
  induction cs with
  | nil => rfl
  | cons a cs ih =>
    obtain ⟨a, b, c, d⟩ := a
    simp only [cellsOf, List.cons_append, ih]
theorem cellsOf_get : ∀ (cs : List (Value × Value × Value × Value)) (i : Nat) (q : Value × Value × Value × Value), cs[i]? = some q → (cellsOf cs)[i * 4]? = some q.1 ∧ (cellsOf cs)[i * 4 + 1]? = some q.2.1 ∧ (cellsOf cs)[i * 4 + 2]? = some q.2.2.1 ∧ (cellsOf cs)[i * 4 + 3]? = some q.2.2.2
  | [], i, q, h => by simp at h
  | (a, b, c, d) :: cs, 0, q, h => by
    simp at h
    subst h
    simp [cellsOf]
  | (a, b, c, d) :: cs, i + 1, q, h => by
    have := cellsOf_get cs i q (by simpa using h)
    simpa [cellsOf, Nat.add_mul] using this

/-- Read as a slice of terms. -/
theorem OwnT.reads {B : Nat} {ks : List Tm} {v : Value} {w : World} (h : OwnT B ks v w) (hl : ks.length ≤ 140737488351232) : ∃ a cap, v = .slice a ks.length cap ∧ RKo (fun k => B ≤ k) w a ks := by
  obtain ⟨cs, hcl, hown, hcs⟩ := h.ex
  rcases hown.2 with ⟨rfl, h0⟩ | ⟨g, cap, cur, rfl, hB, hg, hn, _, hsz, htk⟩
  · have : ks = [] := List.length_eq_zero_iff.1 h0
    subst this
    exact ⟨none, 0, rfl, RKo.nil⟩
  · refine ⟨_, cap, rfl, hl, fun _ => ⟨g, 0, rfl, hB, (Array.getElem?_eq_some_iff.1 hg).1, RTos.of fun i hi => ?_⟩⟩
    obtain ⟨q, hq, hx⟩ := hcs i hi
    have hcell : ∀ j, j < ks.length * 4 → w.cell? ⟨g, 0 + j, none⟩ = (cellsOf cs)[j]? := fun j hj => by
      rw [Lib.cell_of_heap hg, ← htk, List.getElem?_take_of_lt hj, Nat.zero_add, ← Array.getElem?_toList]
    obtain ⟨c0, c1, c2, c3⟩ := cellsOf_get cs i q hq
    refine ⟨q.1, q.2.1, q.2.2.1, q.2.2.2, ?_, ?_, ?_, ?_, RTo.weak (fun k hk => hk.1) hx⟩
    · rw [hcell _ (by omega)]; exact c0
    · rw [show 0 + i * 4 + 1 = 0 + (i * 4 + 1) from by omega, hcell _ (by omega)]; exact c1
    · rw [show 0 + i * 4 + 2 = 0 + (i * 4 + 2) from by omega, hcell _ (by omega)]; exact c2
    · rw [show 0 + i * 4 + 3 = 0 + (i * 4 + 3) from by omega, hcell _ (by omega)]; exact c3

/-- While all that is new from B on, but for g, stays, the row and its terms stay. -/
theorem OwnT.keep {B : Nat} {ks : List Tm} {v : Value} {w w' : World} (h : OwnT B ks v w) (hk : Keep (fun k => B ≤ k) w w') : OwnT B ks v w' := by
  obtain ⟨cs, hcl, hown, hcs⟩ := h.ex
  refine ⟨cs, hcl, ⟨hown.1, ?_⟩, fun i hi => ?_⟩
  · rcases hown.2 with h2 | ⟨g, cap, cur, e1, e2, e3, e4⟩
    · exact .inl h2
    · exact .inr ⟨g, cap, cur, e1, e2, (hk.block g e2 (Array.getElem?_eq_some_iff.1 e3).1).trans e3, e4⟩
  · obtain ⟨q, hq, hx⟩ := hcs i hi
    exact ⟨q, hq, RTo.keep ⟨hk.size, fun k hk1 hk2 => hk.block k hk1.1 hk2⟩ hx⟩

mutual
theorem RTo.lt {ok : Nat → Prop} {w : World} : ∀ {T : Tm} {v : Value}, RTo ok w T v → RTo (fun k => ok k ∧ k < w.heap.size) w T v
  | .mk k c t ks, v, h => by
    rw [RTo] at h ⊢
    obtain ⟨a1, c1, a2, c2, e, hr, hc, hb, hl, hks⟩ := h
    refine ⟨a1, c1, a2, c2, e, hr, hc, ⟨hb.1, fun hn => ?_⟩, hl, fun hn => ?_⟩
    · obtain ⟨b, o, e2, ho, hb2, hr2⟩ := hb.2 hn
      exact ⟨b, o, e2, ⟨ho, hb2⟩, hb2, hr2⟩
    · obtain ⟨b, o, e2, ho, hb2, hr2⟩ := hks hn
      exact ⟨b, o, e2, ⟨ho, hb2⟩, hb2, RTos.lt hr2⟩
theorem RTos.lt {ok : Nat → Prop} {w : World} {b : Nat} : ∀ {ks : List Tm} {o : Nat}, RTos ok w b o ks → RTos (fun k => ok k ∧ k < w.heap.size) w b o ks
  | [], _, _ => by rw [RTos]; trivial
  | x :: xs, o, h => by
    rw [RTos] at h ⊢
    obtain ⟨⟨v0, v1, v2, v3, h0, h1, h2, h3, hx⟩, hr⟩ := h
    exact ⟨⟨v0, v1, v2, v3, h0, h1, h2, h3, RTo.lt hx⟩, RTos.lt hr⟩
end

/-- A reading goes over the growing of a row that is none of its own. -/
theorem RTo.grown {B : Nat} {v v' : Value} {w w' : World} (hg : w.grownBy w' v.ownBlock) (hat : v'.ownBlock = v.ownBlock ∨ v'.ownBlock = some w.heap.size) {T : Tm} {x : Value} (h : RTo (fun k => B ≤ k ∧ some k ≠ v.ownBlock) w T x) : RTo (fun k => B ≤ k ∧ some k ≠ v'.ownBlock) w' T x := by
  refine RTo.weak (fun k hk => ?_) (RTo.keep ⟨hg.size, fun k hk hk2 => hg.block k hk2 hk.1.2⟩ h.lt)
  refine ⟨hk.1.1, ?_⟩
  rcases hat with e | e
  · rw [e]; exact hk.1.2
  · rw [e]
    intro e2
    injection e2 with e2
    omega

/-- One more term. -/
theorem OwnT.push {B : Nat} {ks : List Tm} {v v' : Value} {w w' : World} {T : Tm} {v0 v1 v2 v3 : Value} {cs : List (Value × Value × Value × Value)} (hcl : cs.length = ks.length)
    (hcs : ∀ i (hi : i < ks.length), ∃ q, cs[i]? = some q ∧ RTo (fun k => B ≤ k ∧ some k ≠ v.ownBlock) w ks[i] (.agg #[q.1, q.2.1, q.2.2.1, q.2.2.2]))
    (hx : RTo (fun k => B ≤ k ∧ some k ≠ v.ownBlock) w T (.agg #[v0, v1, v2, v3]))
    (hown : w'.ownsRow B 25 4 v' (ks.length + 1) (cellsOf cs ++ [v0, v1, v2, v3])) (hg : w.grownBy w' v.ownBlock) (hat : v'.ownBlock = v.ownBlock ∨ v'.ownBlock = some w.heap.size) : OwnT B (ks ++ [T]) v' w' := by
  refine ⟨cs ++ [(v0, v1, v2, v3)], by simp [hcl], by rw [cellsOf_append, List.length_append]; exact hown, fun i hi => ?_⟩
  rw [List.length_append, List.length_singleton] at hi
  by_cases h : i < ks.length
  · obtain ⟨q, hq, hr⟩ := hcs i h
    refine ⟨q, by rw [List.getElem?_append_left (by omega)]; exact hq, ?_⟩
    rw [List.getElem_append_left h]
    exact hr.grown hg hat
  · have : i = ks.length := by omega
    subst this
    refine ⟨(v0, v1, v2, v3), by rw [List.getElem?_append_right (by omega), hcl]; simp, ?_⟩
    rw [List.getElem_append_right (by omega)]
    simp only [Nat.sub_self, List.getElem_cons_zero]
    exact hx.grown hg hat

theorem four_new (w : World) (a b c d : Value) (t : TypeId) : ∀ j u, [a, b, c, d][j]? = some u → (w.alloc (.cells #[a, b, c, d] t)).cell? ((⟨w.heap.size, 0, none⟩ : Addr).add j) = some u := by
  intro j u hj
  have h := Blk.cell (Blk.new w #[a, b, c, d] t) j
  rw [show (⟨w.heap.size, 0, none⟩ : Addr).add j = ⟨w.heap.size, j, none⟩ from by unfold Addr.add; split <;> simp_all, h, ← hj]
  simp

end Go.Proofs.Ytfndldfnlncabaa
