/- What is handed in reads as documents. -/
import Derived.Test.YtcmhlfnmjpmjhaaMem
import Derived.ProofKit
import Derived.OpenShut
import Derived.ShutString
import Derived.SizedLaws
import Derived.Below
namespace Go.Proofs.Ytcmhlfnmjpmjhaa
set_option linter.unusedSimpArgs false
set_option linter.unnecessarySimpa false
set_option linter.deprecated false
open Go.ChangeShapes Go.WideShapes Go.ChangeAt Go.RowKit
set_option linter.unusedVariables false

section
variable {H : Type} {enc : TypeId × Value → H} {w : World} {spare : Nat → Bool} {held : Bool}

theorem cell_spot {a : Addr} {v : Value} (h : w.cell? a = some v) : a.spot = none ∧ a.block < w.heap.size := by
  unfold World.cell? at h
  split at h
  · rename_i c _ _ hb
    refine ⟨?_, (Array.getElem?_eq_some_iff.1 hb).1⟩
    cases hs : a.spot with
    | none => rfl
    | some s => rw [hs] at h; simp at h
  · cases h

theorem add_more (a : Addr) (m n : Nat) : (a.add m).add n = a.add (m + n) := by
  unfold Addr.add
  by_cases hm : m = 0
  · subst m; simp
  · by_cases hn : n = 0
    · subst n; simp [hm]
    · simp [hm, hn, Nat.add_assoc]

theorem spread {P : Nat → Dc → Prop} {n : Nat} (h : ∀ i, i < n → ∃ T, P i T) : ∃ ks : List Dc, ks.length = n ∧ ∀ i (hi : i < ks.length), P i ks[i] := by
  induction n with
  | zero => exact ⟨[], rfl, fun i hi => absurd hi (by simp)⟩
  | succ n ih =>
    obtain ⟨ks, hl, hk⟩ := ih fun i hi => h i (by omega)
    obtain ⟨T, hT⟩ := h n (by omega)
    refine ⟨ks ++ [T], by simp [hl], fun i hi => ?_⟩
    rcases Nat.lt_or_ge i ks.length with h1 | h1
    · rw [List.getElem_append_left h1]
      exact hk i h1
    · rw [List.length_append] at hi
      have : i = n := by simp at hi; omega
      subst this
      rw [List.getElem_append_right (by omega)]
      simpa using hT

theorem rts_of {b : Nat} : ∀ (ks : List Dc) (o : Nat), (∀ i (hi : i < ks.length), ∃ v0 v1 v2 v3, w.cell? ⟨b, o + i * 4, none⟩ = some v0 ∧ w.cell? ⟨b, o + i * 4 + 1, none⟩ = some v1 ∧ w.cell? ⟨b, o + i * 4 + 2, none⟩ = some v2 ∧ w.cell? ⟨b, o + i * 4 + 3, none⟩ = some v3 ∧ RDo (fun _ => True) w ks[i] (.agg #[v0, v1, v2, v3])) → RDos (fun _ => True) w b o ks
  | [], _, _ => by rw [RDos]; trivial
  | x :: xs, o, h => by
    rw [RDos]
    refine ⟨by have := h 0 (by simp); rw [Nat.zero_mul, Nat.add_zero] at this; exact this, rts_of xs (o + 4) fun i hi => ?_⟩
    have := h (i + 1) (by simpa using hi)
    rw [show o + (i + 1) * 4 = o + 4 + i * 4 by omega] at this
    simpa using this

theorem weights_mem {d : DataW H} {t : TypeId} : ∀ {l : List (DataW H)}, d ∈ l → ∀ n ∈ DataW.weights Try.prog t d, n ∈ DataW.weightsAll Try.prog t l
  | [], h, _, _ => by cases h
  | x :: xs, h, n, hn => by
    rw [DataW.weightsAll]
    rcases List.mem_cons.1 h with rfl | h
    · exact List.mem_append_left _ hn
    · exact List.mem_append_right _ (weights_mem h n hn)

set_option maxRecDepth 100000 in
theorem doc_reads : ∀ {fuel : Nat} {cs : List Value} {x : DataW H × List MemPlace}, DataW.trod enc Try.prog w 0 spare held fuel 24 cs = some x →
    (∀ n ∈ DataW.weights Try.prog 24 x.1, n ≤ 140737488351232) → ∃ T c0 c1 c2 c3, cs = [c0, c1, c2, c3] ∧ RD w T (.agg #[c0, c1, c2, c3]) := by
  intro fuel
  induction fuel using Nat.strongRecOn with
  | ind fuel ih =>
    intro cs x h hw
    obtain ⟨xs, n, rfl, rfl, hl, hxs, hf⟩ := DataW.trod_struct Try.underlying24 h
    have hl4 : cs.length = 4 := hl.trans (by kernel_rfl)
    match cs, hl4 with
    | [c0, c1, c2, c3], _ =>
    match xs, hxs with
    | [y0, y1, y2, y3], _ =>
    have g0 := hf 0 _ rfl
    have g1 := hf 1 _ rfl
    have g2 := hf 2 _ rfl
    have g3 := hf 3 _ rfl
    have k0 : DataW.trod enc Try.prog w 0 spare held n 3 [c0] = some y0 := g0
    have k1 : DataW.trod enc Try.prog w 0 spare held n 9 [c1] = some y1 := g1
    have k2 : DataW.trod enc Try.prog w 0 spare held n 3 [c2] = some y2 := g2
    have k3 : DataW.trod enc Try.prog w 0 spare held n 22 [c3] = some y3 := g3
    obtain ⟨k, e0, rfl, wf0⟩ := DataW.trod_int Try.underlying3 k0
    obtain ⟨s, e1, rfl, _⟩ := DataW.trod_string Try.underlying9 k1
    rw [DataW.weights, Try.underlying24] at hw
    simp only [List.map_cons, List.map_nil, DataW.weightsEach, DataW.weights, List.nil_append, List.append_nil, List.mem_append] at hw
    obtain ⟨k', e2, rfl, wf2⟩ := DataW.trod_int Try.underlying3 k2
    have hk' : -9223372036854775808 ≤ k' ∧ k' ≤ 9223372036854775807 := by
      simp only [Lit.wf, Bool.and_eq_true, decide_eq_true_eq] at wf2
      exact wf2
    have hs : s.size ≤ 140737488351232 := by
      have := hw s.data.toList.length (by simp)
      simpa using this
    have hk : -9223372036854775808 ≤ k ∧ k ≤ 9223372036854775807 := by
      simp only [Lit.wf, Bool.and_eq_true, decide_eq_true_eq] at wf0
      exact wf0
    have hk3 : ∃ a2 d2 ks, c3 = .slice a2 (ks : List Dc).length d2 ∧ RK w a2 ks := by
      rcases DataW.trod_slice Try.underlying22 k3 with ⟨e3, rfl⟩ | ⟨a, len, cap, elems, rest, m, rfl, e3, rfl, hb, hle, hcap, hel, hall, hsp, hns⟩
      · obtain rfl : c3 = _ := by simpa using e3
        exact ⟨none, 0, [], rfl, RKo.nil⟩
      · obtain rfl : c3 = _ := by simpa using e3
        have h72 : Try.prog.bytesOf 24 = 56 := by kernel_rfl
        have h4 : Try.prog.cellsOf 24 = 4 := by kernel_rfl
        have hw3 : ∀ n, n ∈ DataW.weights Try.prog 22 (DataW.slice (elems.map (·.1)) (rest.map (·.1))) → n ≤ 140737488351232 := fun n hn => hw n (by simp [hn])
        rw [DataW.weights, Try.underlying22] at hw3
        simp only [h72, List.length_map] at hw3
        have hlen : len ≤ 140737488351232 := by
          have := hw3 _ (List.mem_cons_self ..)
          omega
        have each : ∀ i, i < len → ∃ T, ∃ v0 v1 v2 v3, w.cell? (a.add (i * 4)) = some v0 ∧ w.cell? (a.add (i * 4 + 1)) = some v1 ∧ w.cell? (a.add (i * 4 + 2)) = some v2 ∧ w.cell? (a.add (i * 4 + 3)) = some v3 ∧ RD w T (.agg #[v0, v1, v2, v3]) := by
          intro i hi
          have := hall i hi
          rw [List.getElem?_eq_getElem (by omega)] at this
          obtain ⟨cs', hcs, htr⟩ := Option.bind_eq_some_iff.1 this
          obtain ⟨T, v0, v1, v2, v3, rfl, hT⟩ := ih m (by omega) htr (fun n hn => hw3 n (List.mem_cons_of_mem _ (List.mem_append_left _ (weights_mem (List.mem_map.2 ⟨_, List.getElem_mem (by omega), rfl⟩) n hn))))
          rw [h4] at hcs
          obtain ⟨_, _, hg⟩ := World.cells?_some hcs
          have p0 := hg 0 (by omega)
          have p1 := hg 1 (by omega)
          have p2 := hg 2 (by omega)
          have p3 := hg 3 (by omega)
          rw [add_more] at p1 p2 p3
          exact ⟨T, v0, v1, v2, v3, p0, p1, p2, p3, hT⟩
        obtain ⟨ks, hkl, hks⟩ := spread each
        refine ⟨some a, cap, ks, by rw [hkl], by omega, fun hn => ?_⟩
        have hpos : 0 < ks.length := List.length_pos_iff.2 hn
        obtain ⟨v0, _, _, _, z0, _⟩ := hks 0 hpos
        have q0 := cell_spot z0
        obtain ⟨b, o, sp⟩ := a
        obtain ⟨h1, h2⟩ := q0
        have h1' : sp = none := h1
        subst h1'
        refine ⟨b, o, rfl, trivial, h2, rts_of ks o fun i hi => ?_⟩
        have := hks i hi
        simp only [add_mk] at this
        exact this
    obtain ⟨a2, d2, ks, rfl, hks⟩ := hk3
    obtain rfl : c0 = _ := by simpa using e0
    obtain rfl : c1 = _ := by simpa using e1
    obtain rfl : c2 = _ := by simpa using e2
    refine ⟨.mk k s k' ks, _, _, _, _, rfl, ?_⟩
    unfold RD
    rw [RDo]
    exact ⟨a2, d2, rfl, hk, hs, hk', hks.1, hks.2⟩

set_option maxRecDepth 100000 in
/-- An argument of the type of documents reads as a document. -/
theorem open_doc {base : Nat} {v : Value} {d : DataW H} {p : List MemPlace} (hv : Value.okWide Try.prog w .any base 24 v) (h : DataW.Trod enc Try.prog w 0 spare held 24 v d p)
    (hw : ∀ n ∈ DataW.weights Try.prog 24 d, n ≤ 140737488351232) : ∃ T, RD w T v := by
  obtain ⟨cs, rfl, _⟩ := okWide_struct Try.underlying24 hv
  obtain ⟨fuel, hf⟩ := h
  obtain ⟨T, c0, c1, c2, c3, e, hT⟩ := doc_reads hf hw
  obtain rfl : cs = #[c0, c1, c2, c3] := by
    have : cs.toList = [c0, c1, c2, c3] := e
    exact Array.toList_inj.1 this
  exact ⟨T, hT⟩
theorem trod_old {t : TypeId} {v : Value} {d : DataW H} {p : List MemPlace} (h : DataW.Trod enc Try.prog w 0 spare held t v d p) : ∀ x ∈ p, x.block < w.heap.size := by
  obtain ⟨m, hm⟩ := h
  exact DataW.trod_lt m _ _ _ hm
end
end Go.Proofs.Ytcmhlfnmjpmjhaa
