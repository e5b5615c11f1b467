/- The walks of slices.Clone on bytes and on terms. -/
import Derived.Test.YtfndldfnlncabaaQuoted
import Derived.Test.YtfndldfnlncabaaList
import Derived.Test.YtfndldfnlncabaaTree
import Derived.Maps.AppendAt
import Derived.OwnWalk
import Derived.Lib.BufferMore
set_option linter.unusedVariables false
set_option linter.unusedSimpArgs false
set_option linter.unnecessarySimpa false
set_option linter.deprecated false
namespace Go.Proofs.Ytfndldfnlncabaa
open Go.RowKit

theorem own_empty (w : World) (e : TypeId) (size : Nat) : (w.alloc (.cells #[] e)).ownsRow w.heap.size e size (.slice (some ⟨w.heap.size, 0, none⟩) 0 0) 0 [] := by
  refine ⟨by simp, Or.inr ⟨w.heap.size, 0, #[], rfl, Nat.le_refl _, ?_, Nat.le_refl _, by decide, by simp, by simp⟩⟩
  exact Blk.new w #[] e

theorem addr_add (b o n : Nat) : (⟨b, o, none⟩ : Addr).add n = ⟨b, o + n, none⟩ := by
  unfold Addr.add
  split
  · subst n; rfl
  · rfl
theorem old_cell {w : World} {a : Addr} {u : Value} (h : w.cell? a = some u) (o : Obj) : (w.alloc o).cell? a = some u := by
  have hb : a.block < w.heap.size := by
    unfold World.cell? at h
    split at h
    · rename_i hh
      exact (Array.getElem?_eq_some_iff.1 hh).1
    · cases h
  exact (((Below.refl w.heap.size w).alloc (Nat.le_refl _) o).cell hb).trans h

theorem rb_cells {w : World} {a : Addr} {t : List UInt8} (h : RB w (some a) t) : ∀ j u, (Lib.byteCells t)[j]? = some u → w.cell? (a.add j) = some u := by
  intro j u hj
  simp only [Lib.byteCells, List.getElem?_map, Option.map_eq_some_iff] at hj
  obtain ⟨c, hc, rfl⟩ := hj
  have hlt : j < t.length := (List.getElem?_eq_some_iff.1 hc).1
  obtain ⟨b, o, e, hb, hr⟩ := h.get (by rintro rfl; simp at hlt)
  injection e with e
  subst e
  have h1 := hr j hlt
  rw [hc, Option.getD_some] at h1
  rw [← h1]
  unfold Addr.add
  split
  · rename_i e; subst e; rfl
  · rfl

/-- A copy of bytes is handed back, in a block of its own. -/
def ClB (w : World) (t : List UInt8) (e : Ending) (w' : World) : Prop :=
  (∃ a' c', e = .returned (.slice a' t.length c') ∧ TBo (fun k => w.heap.size ≤ k) w' a' t ∧ ∀ k, some k = a'.map (·.block) → w.heap.size ≤ k ∧ k < w'.heap.size) ∧ Below w.heap.size w w'
/-- A copy of a row of terms, each reading as it did. -/
def ClT (w : World) (ok : Nat → Prop) (ks : List Tm) (e : Ending) (w' : World) : Prop :=
  (∃ a' c', e = .returned (.slice a' ks.length c') ∧ (ks ≠ [] → ∃ b cur, a' = some ⟨b, 0, none⟩ ∧ w.heap.size ≤ b ∧ w'.heap[b]? = some (.cells cur 25 (0, 0)) ∧ ks.length * 4 ≤ cur.size ∧
    ∀ i (h : i < ks.length), ∃ v0 v1 v2 v3, w'.cell? ⟨b, i * 4, none⟩ = some v0 ∧ w'.cell? ⟨b, i * 4 + 1, none⟩ = some v1 ∧ w'.cell? ⟨b, i * 4 + 2, none⟩ = some v2 ∧ w'.cell? ⟨b, i * 4 + 3, none⟩ = some v3 ∧ RTo ok w ks[i] (.agg #[v0, v1, v2, v3]))) ∧ Below w.heap.size w w'

theorem own_tbo {w : World} {B : Nat} {v : Value} {bs : List UInt8} (h : w.ownsRow B 5 1 v bs.length (Lib.byteCells bs)) (hl : bs.length ≤ 140737488351232) : ∃ a cap, v = .slice a bs.length cap ∧ TBo (fun k => B ≤ k) w a bs := by
  rcases h.2 with ⟨rfl, h0⟩ | ⟨g, cap, cur, rfl, hB, hg, hn, _, hsz, htk⟩
  · have : bs = [] := List.length_eq_zero_iff.1 h0
    subst this
    exact ⟨none, 0, rfl, TBo.nil⟩
  · refine ⟨_, cap, rfl, hl, fun _ => ⟨g, cur, rfl, hB, hg, fun i hi => ?_⟩⟩
    have h2 : (cur.toList.take (bs.length * 1))[i]? = (Lib.byteCells bs)[i]? := by rw [htk]
    rw [List.getElem?_take_of_lt (by omega)] at h2
    rw [← Array.getElem?_toList, h2]
    simp [Lib.byteCells, hi]
set_option maxHeartbeats 1000000 in
set_option maxRecDepth 100000 in
theorem cloneB_any (t : List UInt8) (hl : t.length ≤ 140737488351232) (a : Option Addr) (c : Nat) (w : World) (h : RB w a t) :
    Calls Try.prog 62 #[.slice a t.length c] w (ClB w t) := by
  obtain ⟨i0, hi, hz0, hz1, hz2⟩ := info_parts info5
  rcases a with _ | ad
  · have h0 : t = [] := by
      by_cases h0 : t = []
      · exact h0
      · obtain ⟨b, o, e, _⟩ := h.get h0
        cases e
    subst h0
    have hnil := fun W => Lib.run_eql_slice_nil_nil (P := Try.prog) W 0 c Try.underlying22
    clear h hl
    go_enter Try.func62, Try.ntmps62
    go_wp2_with fail
    go_ret
    exact ⟨⟨none, 0, rfl, TBo.nil, fun k hk => by cases hk⟩, Below.refl _ _⟩
  · have hcells := rb_cells h
    obtain ⟨n, hn2⟩ : ∃ n, t.length = n := ⟨_, rfl⟩
    have HN := hide hn2
    rw [hn2] at hl ⊢
    clear hn2 h
    have hnil := fun W => Lib.run_eql_slice_some_nil (P := Try.prog) W ad n c Try.underlying22
    go_enter Try.func62, Try.ntmps62
    go_wp2_with (at_builtin; refine wpList_append_own _ rfl _ _ 22 rfl w.heap.size 5 i0 (.int .u8 0) 1 1 Try.underlying22 hi hz0 hz1 hz2 rfl (by decide) _ _ _ rfl (own_empty w 5 1) ad n c (Lib.byteCells t) rfl ?c1 ?c2 ?c3 ?c4 ?c5 ?c6 ?_)
    case c1 => have := HN.out; simp [Lib.byteCells]; exact this
    case c2 => exact fun j u hj => old_cell (hcells j u hj) _
    case c3 =>
      intro u hu
      simp only [Lib.byteCells, List.mem_map] at hu
      obtain ⟨x, _, rfl⟩ := hu
      rfl
    case c4 => unfold maxLen; omega
    case c5 => omega
    case c6 => simp
    intro v' w' hown hg hne
    have hB : Below w.heap.size w w' := ((Below.refl _ w).alloc (Nat.le_refl _) _).grown hg (by simp) (fun k hk => by
      simp only [Value.ownBlock, Option.some.injEq] at hk
      omega)
    have hown2 : w'.ownsRow w.heap.size 5 1 v' t.length (Lib.byteCells t) := by rw [HN.out]; exact hown
    obtain ⟨a', c', rfl, hrd⟩ := own_tbo hown2 (by have := HN.out; omega)
    have hP := hide (show ClB w t (.returned (.slice a' t.length c')) w' from ⟨⟨a', c', rfl, hrd, fun k hk => by
      rcases hown2.2 with ⟨e, _⟩ | ⟨g, cap, cur, e, hb, hh, _⟩
      · injection e with e1 _
        rw [e1] at hk
        cases hk
      · injection e with e1 _
        rw [e1] at hk
        simp only [Option.map_some, Option.some.injEq] at hk
        subst hk
        exact ⟨hb, (Array.getElem?_eq_some_iff.1 hh).1⟩⟩, hB⟩)
    clear hown hg hne hown2 hrd hB hcells hnil
    rw [HN.out] at hP ⊢
    go_wp2_with fail
    go_ret
    exact hP.out

theorem rk_cells {w : World} {ok : Nat → Prop} {a : Addr} {ks : List Tm} (h : RKo ok w (some a) ks) : ∃ L : List Value, L.length = ks.length * 4 ∧ (∀ j u, L[j]? = some u → w.cell? (a.add j) = some u) ∧ (∀ u ∈ L, u.oneCell' = true) ∧
    ∀ i (h : i < ks.length), ∃ v0 v1 v2 v3, L[i * 4]? = some v0 ∧ L[i * 4 + 1]? = some v1 ∧ L[i * 4 + 2]? = some v2 ∧ L[i * 4 + 3]? = some v3 ∧ RTo ok w ks[i] (.agg #[v0, v1, v2, v3]) := by
  have key : ∀ i (hi : i < ks.length), ∃ k0 k1 a1 c1 n1 a2 c2 n2, w.cell? (a.add (i * 4)) = some (.int .i64 k0) ∧ w.cell? (a.add (i * 4 + 1)) = some (.string k1) ∧ w.cell? (a.add (i * 4 + 2)) = some (.slice a1 n1 c1) ∧ w.cell? (a.add (i * 4 + 3)) = some (.slice a2 n2 c2) ∧
      RTo ok w ks[i] (.agg #[.int .i64 k0, .string k1, .slice a1 n1 c1, .slice a2 n2 c2]) := by
    intro i hi
    obtain ⟨b, o, a1, c1, a2, c2, e, _, h0, h1, h2, h3, hT⟩ := h.get i hi
    injection e with e
    subst e
    refine ⟨_, _, a1, c1, _, a2, c2, _, ?_, ?_, ?_, ?_, hT⟩
    · rw [addr_add]; exact h0
    · rw [addr_add, ← Nat.add_assoc]; exact h1
    · rw [addr_add, ← Nat.add_assoc]; exact h2
    · rw [addr_add, ← Nat.add_assoc]; exact h3
  have hat : ∀ j, j < ks.length * 4 → ∃ u, w.cell? (a.add j) = some u ∧ u.oneCell' = true := by
    intro j hj
    obtain ⟨k0, k1, a1, c1, n1, a2, c2, n2, h0, h1, h2, h3, _⟩ := key (j / 4) (by omega)
    have : j = j / 4 * 4 ∨ j = j / 4 * 4 + 1 ∨ j = j / 4 * 4 + 2 ∨ j = j / 4 * 4 + 3 := by omega
    rcases this with e | e | e | e
    · rw [e]; exact ⟨_, h0, rfl⟩
    · rw [e]; exact ⟨_, h1, rfl⟩
    · rw [e]; exact ⟨_, h2, rfl⟩
    · rw [e]; exact ⟨_, h3, rfl⟩
  have hget : ∀ j u, w.cell? (a.add j) = some u → j < ks.length * 4 → ((List.range (ks.length * 4)).map fun j => (w.cell? (a.add j)).getD undef)[j]? = some u := by
    intro j u hu hj
    simp [hj, hu]
  refine ⟨(List.range (ks.length * 4)).map fun j => (w.cell? (a.add j)).getD undef, by simp, ?_, ?_, ?_⟩
  · intro j u hu
    have hj : j < ks.length * 4 := by
      have := (List.getElem?_eq_some_iff.1 hu).1
      simpa using this
    obtain ⟨u2, h2, _⟩ := hat j hj
    rw [hget j u2 h2 hj] at hu
    rw [← hu]; exact h2
  · intro u hu
    obtain ⟨j, hj, rfl⟩ := List.mem_map.1 hu
    obtain ⟨u2, h2, h3⟩ := hat j (by simpa using hj)
    rw [h2]; exact h3
  · intro i hi
    obtain ⟨k0, k1, a1, c1, n1, a2, c2, n2, h0, h1, h2, h3, hT⟩ := key i hi
    exact ⟨_, _, _, _, hget _ _ h0 (by omega), hget _ _ h1 (by omega), hget _ _ h2 (by omega), hget _ _ h3 (by omega), hT⟩

set_option maxHeartbeats 1000000 in
set_option maxRecDepth 100000 in
theorem cloneT_any (ks : List Tm) (hl : ks.length ≤ 1000000) (a : Option Addr) (c : Nat) (w : World) (ok : Nat → Prop) (h : RKo ok w a ks) :
    Calls Try.prog 63 #[.slice a ks.length c] w (ClT w ok ks) := by
  obtain ⟨i0, hi, hz0, hz1, hz2⟩ := info_parts info25
  rcases a with _ | ad
  · have h0 : ks = [] := by
      by_cases h0 : ks = []
      · exact h0
      · obtain ⟨b, o, e, _⟩ := h.2 h0
        cases e
    subst h0
    have hnil := fun W => Lib.run_eql_slice_nil_nil (P := Try.prog) W 0 c Try.underlying23
    clear h hl
    go_enter Try.func63, Try.ntmps63
    go_wp2_with fail
    go_ret
    exact ⟨⟨none, 0, rfl, fun hn => absurd rfl hn⟩, Below.refl _ _⟩
  · obtain ⟨L, hL1, hL2, hL3, hL4⟩ := rk_cells h
    obtain ⟨n, hn2⟩ : ∃ n, ks.length = n := ⟨_, rfl⟩
    have HN := hide hn2
    have HL4 := hide hL4
    rw [hn2] at hl hL1 ⊢
    clear hn2 h hL4
    have hnil := fun W => Lib.run_eql_slice_some_nil (P := Try.prog) W ad n c Try.underlying23
    go_enter Try.func63, Try.ntmps63
    go_wp2_with (at_builtin; refine wpList_append_own _ rfl _ _ 23 rfl w.heap.size 25 i0 _ 4 72 Try.underlying23 hi hz0 hz1 hz2 rfl (by decide) _ _ _ rfl (own_empty w 25 4) ad n c L rfl ?c1 ?c2 ?c3 ?c4 ?c5 ?c6 ?_)
    case c1 => exact hL1
    case c2 => exact fun j u hj => old_cell (hL2 j u hj) _
    case c3 => exact hL3
    case c4 => unfold maxLen; omega
    case c5 => omega
    case c6 => simp
    intro v' w' hown hg hne
    have hB : Below w.heap.size w w' := ((Below.refl _ w).alloc (Nat.le_refl _) _).grown hg (by simp) (fun k hk => by
      simp only [Value.ownBlock, Option.some.injEq] at hk
      omega)
    have hP : ∃ a' c', v' = .slice a' n c' ∧ ClT w ok ks (.returned (.slice a' n c')) w' := by
      rcases hown.2 with ⟨rfl, _⟩ | ⟨g, cap, cur, e, hb, hh, hn, _, hcs, htk⟩
      · exact absurd rfl hne
      · (try rw [Nat.zero_add] at htk)
        refine ⟨_, _, e, ⟨_, cap, by rw [HN.out], fun _ => ⟨g, cur, rfl, hb, hh, by rw [HN.out, hcs]; omega, fun i hi => ?_⟩⟩, hB⟩
        obtain ⟨v0, v1, v2, v3, l0, l1, l2, l3, hT⟩ := HL4.out i hi
        have hc : ∀ j u, L[j]? = some u → w'.cell? ⟨g, j, none⟩ = some u := by
          intro j u hj
          have hj2 := (List.getElem?_eq_some_iff.1 hj).1
          rw [Lib.cell_of_heap hh, ← Array.getElem?_toList]
          have h2 : (cur.toList.take (n * 4))[j]? = L[j]? := by rw [htk]
          rw [List.getElem?_take_of_lt (by omega)] at h2
          rw [h2]; exact hj
        exact ⟨v0, v1, v2, v3, hc _ _ l0, hc _ _ l1, hc _ _ l2, hc _ _ l3, hT⟩
    obtain ⟨a', c', rfl, hP⟩ := hP
    have HP := hide hP
    clear hown hg hne hB hP hL1 hL2 hL3 HL4 hnil
    go_wp2_with fail
    go_ret
    exact HP.out
end Go.Proofs.Ytfndldfnlncabaa
