/- The row of what is still to be written: a slice of it may have no room behind it; append at such a row. -/
import Derived.Test.YtcmhlfnmjpmjhaaWwrap
import Derived.ArgAppend
set_option linter.unusedVariables false
set_option linter.unusedSimpArgs false
set_option linter.unnecessarySimpa false
set_option linter.deprecated false
namespace Go.Proofs.Ytcmhlfnmjpmjhaa
open Go.RowKit

/-- A row that reads as xs; behind it lies its block's room, or none. -/
structure Stk (B : Nat) (W : World) (v : Value) (xs : List Value) : Prop where
  ex : ∃ g cap cur, v = .slice (some ⟨g, 0, none⟩) xs.length cap ∧ B ≤ g ∧ W.heap[g]? = some (.cells cur 64 (0, 0)) ∧ xs.length ≤ cap ∧ cap ≤ cur.size ∧ cur.size ≤ maxLen ∧ (cap = cur.size ∨ cap = xs.length) ∧ cur.toList.take xs.length = xs
theorem Stk.block {B : Nat} {W W' : World} {v : Value} {xs : List Value} (h : Stk B W v xs) (hk : ∀ g c, v.ownBlock = some g → W.heap[g]? = some (Obj.cells c 64 (0, 0)) → W'.heap[g]? = some (Obj.cells c 64 (0, 0))) : Stk B W' v xs := by
  obtain ⟨g, cap, cur, rfl, h1, h2, h3⟩ := h.ex
  exact ⟨g, cap, cur, rfl, h1, hk g cur rfl h2, h3⟩
theorem Stk.own {B : Nat} {W : World} {v : Value} {xs : List Value} (h : Stk B W v xs) : ∃ g, v.ownBlock = some g ∧ B ≤ g ∧ T64 W g := by
  obtain ⟨g, cap, cur, rfl, h1, h2, h3⟩ := h.ex
  exact ⟨g, rfl, h1, cur, h2⟩
theorem Stk.mono {B B' : Nat} {W : World} {v : Value} {xs : List Value} (h : Stk B W v xs) (hb : B' ≤ B) : Stk B' W v xs := by
  obtain ⟨g, cap, cur, e, h1, h2⟩ := h.ex
  exact ⟨g, cap, cur, e, by omega, h2⟩
theorem Stk.of_own {B n : Nat} {W : World} {v : Value} {xs : List Value} (h : W.ownsRow B 64 1 v n xs) (hn : 0 < n) : Stk B W v xs := by
  have hl := h.1
  rw [Nat.mul_one] at hl
  rcases h.2 with ⟨_, h0⟩ | ⟨g, cap, cur, rfl, hB, hh, hn2, hm, hsz, htk⟩
  · omega
  · rw [Nat.mul_one] at hsz htk
    subst hl
    exact ⟨g, cap, cur, rfl, hB, hh, hn2, by omega, by omega, .inl hsz.symm, htk⟩
theorem Stk.cell {B : Nat} {W : World} {v : Value} {xs : List Value} (h : Stk B W v xs) : ∃ g cap, v = .slice (some ⟨g, 0, none⟩) xs.length cap ∧ xs.length ≤ cap ∧ g < W.heap.size ∧ ∀ i (hi : i < xs.length), W.cell? ⟨g, i, none⟩ = some xs[i] := by
  obtain ⟨g, cap, cur, rfl, h1, h2, h3, h4, h5, h6, h7⟩ := h.ex
  refine ⟨g, cap, rfl, h3, (Array.getElem?_eq_some_iff.1 h2).1, fun i hi => ?_⟩
  rw [Blk.cell (t := 64) h2 i, ← Array.getElem?_toList]
  have : (cur.toList.take xs.length)[i]? = some xs[i] := by rw [h7]; exact List.getElem?_eq_getElem hi
  rw [List.getElem?_take_of_lt hi] at this
  exact this

/-- What an append of one job leaves. -/
structure Push (B : Nat) (w : World) (v : Value) (xs : List Value) (u : Value) (v' : Value) (w' : World) : Prop where
  stk : Stk B w' v' (xs ++ [u])
  grown : w.grownBy w' v.ownBlock
  at' : ∃ g, v'.ownBlock = some g ∧ (v.ownBlock = some g ∨ w.heap.size ≤ g)

theorem run_append_stk {w : World} {B : Nat} (ty : TypeId) (hB : B ≤ w.heap.size) {v : Value} {xs : List Value} (h : Stk B w v xs) (ad : Addr) (c : Nat) (u : Value) (hu : w.cell? ad = some u) (h1 : u.oneCell' = true) (hl : xs.length ≤ 1000000) :
    ∃ v' w', (Builtin.append_ #[66, 66] ty #[v, .slice (some ad) 1 c]).run Try.prog w = .ok v' w' ∧ Push B w v xs u v' w' := by
  obtain ⟨i0, hi, hz0, hz1, hz2⟩ := info_parts info64
  obtain ⟨g, cap, cur, rfl, hg, hh, hn, hc1, hc2, hc3, htk⟩ := h.ex
  have hnews : ∀ j x, [u][j]? = some x → w.cell? (ad.add j) = some x := by
    intro j x hj
    match j, hj with
    | 0, hj => simp at hj; subst hj; simpa [Addr.add] using hu
  by_cases hcc : cap = cur.size
  · have hown : w.ownsRow B 64 1 (.slice (some ⟨g, 0, none⟩) xs.length cap) xs.length xs := ⟨by simp, .inr ⟨g, cap, cur, rfl, hg, hh, hn, by omega, by omega, by simpa using htk⟩⟩
    obtain ⟨v', w', hrun, ho, hgr, hnil, hat⟩ := run_append_own_at (P := Try.prog) w B 66 ty 64 i0 _ 1 16 Try.underlying66 hi hz0 hz1 hz2 rfl (by decide) _ _ xs hown ad 1 c [u] rfl hnews (by simpa using h1) (by unfold maxLen; omega) (by omega) hB
    have hs := Stk.of_own ho (by omega)
    refine ⟨v', w', hrun, hs, hgr, ?_⟩
    obtain ⟨g', e, _⟩ := hs.own
    rcases hat with h | h
    · exact ⟨g', e, .inl (h.symm.trans e)⟩
    · rw [h] at e
      injection e with e
      exact ⟨g', by rw [h, e], .inr (by omega)⟩
  · have hce : cap = xs.length := hc3.resolve_left hcc
    obtain ⟨v', w', hrun, ho, hgr⟩ := run_append_arg_grows (P := Try.prog) w 66 ty 64 i0 _ 1 16 Try.underlying66 hi hz0 hz1 hz2 rfl (by decide) ⟨g, 0, none⟩ xs.length cap xs (by simp) (fun j x hj => by
        rw [add_mk, Nat.zero_add]
        obtain ⟨hj1, rfl⟩ := List.getElem?_eq_some_iff.1 hj
        obtain ⟨g2, cap2, e, _, _, hcl⟩ := h.cell
        cases e
        exact hcl j hj1) ad 1 c [u] rfl hnews (by omega) (by unfold maxLen; omega) (by omega)
    have hs := Stk.of_own ho (by omega)
    refine ⟨v', w', hrun, hs.mono hB, ⟨hgr.os, hgr.tape, hgr.output, hgr.size, fun k hk _ => hgr.block k hk (by simp)⟩, ?_⟩
    obtain ⟨g', e, hg', _⟩ := hs.own
    exact ⟨g', e, .inr hg'⟩

/-- The same at the operation, inside a fence. -/
theorem wpListIn_append_stk {F : Fence} {nF : Nat} (w : World) {ops : Array Oper} {rest : List Oper} {o : Oper} {a : Act} {Q : Exit → Act → World → Prop} (hgd : o.guard = none) (s x : Operand)
    (ho : o.op = .call { callee := .builtin .append, args := #[s, x], argTypes := #[66, 66] }) {B : Nat} (hB : B ≤ w.heap.size) {v : Value} {xs : List Value} (hs : a.eval s = v) (hk : Stk B w v xs)
    (ad : Addr) (c : Nat) (u : Value) (hx : a.eval x = .slice (some ad) 1 c) (hu : w.cell? ad = some u) (h1 : u.oneCell' = true) (hl : xs.length ≤ 1000000)
    (h : ∀ v' w', Push B w v xs u v' w' → wpListIn F nF Try.prog ops Q rest (a.put o.dst v') w') : wpListIn F nF Try.prog ops Q (o :: rest) a w := by
  refine wpListIn_plain hgd fun K hK => ?_
  obtain ⟨v', w', hr, h2⟩ := run_append_stk o.type hB hk ad c u hu h1 hl
  unfold Oper.wpIn
  refine ⟨by simp [Oper.about, ho, resolve, Target.leads, Sem.run_pure], ?_⟩
  rw [Oper.semAt_plain F _ _ (by rw [ho]; intro c hc'; cases hc')]
  simp [execOp, ho, resolve, invoke, builtin, hs, hx, hr, Result.andThen]
  exact hK _ _ (h v' w' h2)
end Go.Proofs.Ytcmhlfnmjpmjhaa
