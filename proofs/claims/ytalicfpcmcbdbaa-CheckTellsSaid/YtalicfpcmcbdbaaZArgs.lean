/- What is handed in reads as definitions, as productions. -/
import Derived.Test.YtalicfpcmcbdbaaZData
import Derived.ProofKit
import Derived.OpenShut
import Derived.ShutString
import Derived.SizedLaws
import Derived.Below
import Derived.Laws.IdiomArrays
set_option linter.unusedVariables false
set_option linter.unusedSimpArgs false
set_option linter.unnecessarySimpa false
set_option linter.deprecated false
namespace Go.Proofs.Ytalicfpcmcbdbaa
open Go.ChangeShapes Go.WideShapes Go.ChangeAt Go.RowKit

section
variable {H : Type} {enc : TypeId × Value → H} {w : World} {spare : Nat → Bool} {held : Bool}

theorem cell_spot {a : Addr} {v : Value} (h : w.cell? a = some v) : a.spot = none ∧ a.block < w.heap.size := by
  unfold World.cell? at h
  split at h
  · rename_i c _ _ hb
    refine ⟨?_, (Array.getElem?_eq_some_iff.1 hb).1⟩
    cases hs : a.spot with
    | none => rfl
    | some s => rw [hs] at h; simp at h
  · cases h
theorem add_more (a : Addr) (m n : Nat) : (a.add m).add n = a.add (m + n) := by
  unfold Addr.add
  by_cases hm : m = 0
  · subst m; simp
  · by_cases hn : n = 0
    · subst n; simp [hm]
    · simp [hm, hn, Nat.add_assoc]
theorem add_lit0 (b o n : Nat) : (⟨b, o, none⟩ : Addr).add n = ⟨b, o + n, none⟩ := by
  unfold Addr.add
  split <;> simp_all
theorem spread {α : Type} {P : Nat → α → Prop} {n : Nat} (h : ∀ i, i < n → ∃ T, P i T) : ∃ ks : List α, ks.length = n ∧ ∀ i (hi : i < ks.length), P i ks[i] := by
  induction n with
  | zero => exact ⟨[], rfl, fun i hi => absurd hi (by simp)⟩
  | succ n ih =>
    obtain ⟨ks, hl, hk⟩ := ih fun i hi => h i (by omega)
    obtain ⟨T, hT⟩ := h n (by omega)
    refine ⟨ks ++ [T], by simp [hl], fun i hi => ?_⟩
    rcases Nat.lt_or_ge i ks.length with h1 | h1
    · rw [List.getElem_append_left h1]
      exact hk i h1
    · rw [List.length_append] at hi
      have : i = n := by simp at hi; omega
      subst this
      rw [List.getElem_append_right (by omega)]
      simpa using hT
theorem weights_mem {d : DataW H} {t : TypeId} : ∀ {l : List (DataW H)}, d ∈ l → ∀ n ∈ DataW.weights Try.prog t d, n ∈ DataW.weightsAll Try.prog t l
  | [], h, _, _ => by cases h
  | x :: xs, h, n, hn => by
    rw [DataW.weightsAll]
    rcases List.mem_cons.1 h with rfl | h
    · exact List.mem_append_left _ hn
    · exact List.mem_append_right _ (weights_mem h n hn)
/-- What a type's cells read as. -/
def Rd1 {α : Type} (enc : TypeId × Value → H) (w : World) (spare : Nat → Bool) (held : Bool) (e : TypeId) (At : α → Nat → Nat → World → Prop) (m : Nat) : Prop :=
  ∀ (cs : List Value) (x : DataW H × List MemPlace), DataW.trod enc Try.prog w 0 spare held m e cs = some x → (∀ n ∈ DataW.weights Try.prog e x.1, n ≤ 140737488351232) → ∃ y : α, ∀ b o, CellsAt cs b o w → At y b o w
theorem slice_reads {α : Type} {At : α → Nat → Nat → World → Prop} {t e : TypeId} {sz : Nat} (ht : Try.prog.underlying t = some (.slice e)) (hsz : Try.prog.cellsOf e = sz) (hpos : 0 < sz) (hby : 0 < Try.prog.bytesOf e) {fuel : Nat} {cs : List Value} {x : DataW H × List MemPlace}
    (h : DataW.trod enc Try.prog w 0 spare held fuel t cs = some x) (hw : ∀ n ∈ DataW.weights Try.prog t x.1, n ≤ 140737488351232) (each : ∀ m, m < fuel → Rd1 enc w spare held e At m) : ∃ a cap, ∃ l : List α, cs = [.slice a l.length cap] ∧ Row At sz l a w ∧ l.length ≤ cap := by
  rcases DataW.trod_slice ht h with ⟨e3, rfl⟩ | ⟨a, len, cap, elems, rest, m, rfl, e3, rfl, hb, hle, hcap, hel, hall, hsp, hns⟩
  · exact ⟨none, 0, [], e3, Row.nil, Nat.le_refl _⟩
  · rw [DataW.weights, ht] at hw
    simp only [List.length_map] at hw
    have hlen : len ≤ 140737488351232 := by
      have h1 := hw _ (List.mem_cons_self ..)
      have h2 : elems.length + rest.length ≤ (elems.length + rest.length) * Try.prog.bytesOf e := Nat.le_mul_of_pos_right _ hby
      omega
    have hq : ∀ i, i < len → ∃ y : α, ∃ cs' : List Value, cs'.length = sz ∧ (∀ j, j < sz → w.cell? (a.add (i * sz + j)) = cs'[j]?) ∧ ∀ b o, CellsAt cs' b o w → At y b o w := by
      intro i hi
      have := hall i hi
      rw [List.getElem?_eq_getElem (by omega)] at this
      obtain ⟨cs', hcs, htr⟩ := Option.bind_eq_some_iff.1 this
      obtain ⟨y, hy⟩ := each m (by omega) cs' _ htr (fun n hn => hw n (List.mem_cons_of_mem _ (List.mem_append_left _ (weights_mem (List.mem_map.2 ⟨_, List.getElem_mem (by omega), rfl⟩) n hn))))
      rw [hsz] at hcs
      obtain ⟨_, hl, hg⟩ := World.cells?_some hcs
      refine ⟨y, cs', hl, fun j hj => ?_, hy⟩
      have := hg j hj
      rw [add_more] at this
      exact this
    obtain ⟨l, hl, hks⟩ := spread hq
    refine ⟨some a, cap, l, by rw [hl]; exact e3, ⟨by omega, fun hn => ?_⟩, by omega⟩
    have hp : 0 < l.length := List.length_pos_iff.2 hn
    obtain ⟨cs0, hl0, hc0, _⟩ := hks 0 hp
    have hc00 := hc0 0 hpos
    rw [List.getElem?_eq_getElem (by omega)] at hc00
    have q0 := cell_spot hc00
    obtain ⟨b, o, sp⟩ := a
    have hsp0 : sp = none ∧ b < w.heap.size := by
      have hz : (⟨b, o, sp⟩ : Addr).add (0 * sz + 0) = ⟨b, o, sp⟩ := by unfold Addr.add; simp
      rw [hz] at q0
      exact q0
    obtain ⟨rfl, h2⟩ := hsp0
    refine ⟨b, o, rfl, h2, fun i hi => ?_⟩
    obtain ⟨cs', hl', hc', hy⟩ := hks i hi
    refine hy b (o + i * sz) fun j u hj => ?_
    have hjl : j < sz := by rw [← hl']; exact (List.getElem?_eq_some_iff.1 hj).1
    have := hc' j hjl
    rw [add_lit0, ← Nat.add_assoc] at this
    rw [this, hj]
theorem cells44 : Try.prog.cellsOf 44 = 1 := by kernel_rfl
theorem und44 : Try.prog.underlying 44 = some (.int .u64) := by kernel_rfl
theorem set_reads {fuel : Nat} {c0 c1 c2 c3 : Value} {x : DataW H × List MemPlace} (h : DataW.trod enc Try.prog w 0 spare held fuel 46 [c0, c1, c2, c3] = some x) : ∃ s : St, s.ok ∧ c0 = .int .u64 (s.w0 : Int) ∧ c1 = .int .u64 (s.w1 : Int) ∧ c2 = .int .u64 (s.w2 : Int) ∧ c3 = .int .u64 (s.w3 : Int) := by
  obtain ⟨y0, y1, y2, y3, n, _, g0, g1, g2, g3⟩ := trod_array4 Try.underlying46 cells44 h
  obtain ⟨k0, e0, _, wf0⟩ := DataW.trod_int und44 g0
  obtain ⟨k1, e1, _, wf1⟩ := DataW.trod_int und44 g1
  obtain ⟨k2, e2, _, wf2⟩ := DataW.trod_int und44 g2
  obtain ⟨k3, e3, _, wf3⟩ := DataW.trod_int und44 g3
  have key : ∀ k : Int, (Lit.int .u64 k).wf = true → k.toNat < 18446744073709551616 ∧ (k.toNat : Int) = k := by
    intro k hk
    simp only [Lit.wf, Bool.and_eq_true, decide_eq_true_eq] at hk
    have h1 : (0 : Int) ≤ k := hk.1
    have h2 : k ≤ 18446744073709551615 := hk.2
    omega
  obtain ⟨a0, b0⟩ := key _ wf0
  obtain ⟨a1, b1⟩ := key _ wf1
  obtain ⟨a2, b2⟩ := key _ wf2
  obtain ⟨a3, b3⟩ := key _ wf3
  injection e0 with e0 _
  injection e1 with e1 _
  injection e2 with e2 _
  injection e3 with e3 _
  exact ⟨⟨k0.toNat, k1.toNat, k2.toNat, k3.toNat⟩, ⟨a0, a1, a2, a3⟩, by rw [e0, b0], by rw [e1, b1], by rw [e2, b2], by rw [e3, b3]⟩
theorem wf_i64 {k : Int} (h : (Lit.int .i64 k).wf = true) : i64 k := by
  simp only [Lit.wf, Bool.and_eq_true, decide_eq_true_eq] at h
  exact h
theorem rd9 (m : Nat) : Rd1 enc w spare held 9 StrAt m := by
  intro cs x h hw
  obtain ⟨s, rfl, rfl, _⟩ := DataW.trod_string Try.underlying9 h
  have hs : short s := by
    have := hw s.data.toList.length (by simp [DataW.weights])
    simpa [short] using this
  exact ⟨s, fun b o hc => ⟨hs, hc 0 _ rfl⟩⟩
set_option maxRecDepth 100000 in
theorem rd61 (m : Nat) : Rd1 enc w spare held 61 SyAt m := by
    intro cs x h hw
    obtain ⟨xs, n, rfl, rfl, hl, hxs, hf⟩ := DataW.trod_struct Try.underlying61 h
    have hl2 : cs.length = 8 := hl.trans (by kernel_rfl)
    match cs, hl2 with
    | [c0, c1, c2, c3, c4, c5, c6, c7], _ =>
    match xs, hxs with
    | [y0, y1, y2, y3, y4], _ =>
    have g0 := hf 0 _ rfl
    have k0 : DataW.trod enc Try.prog w 0 spare held n 3 [c0] = some y0 := g0
    have g1 := hf 1 _ rfl
    have k1 : DataW.trod enc Try.prog w 0 spare held n 9 [c1] = some y1 := g1
    have g2 := hf 2 _ rfl
    have k2 : DataW.trod enc Try.prog w 0 spare held n 46 [c2, c3, c4, c5] = some y2 := g2
    have g3 := hf 3 _ rfl
    have k3 : DataW.trod enc Try.prog w 0 spare held n 9 [c6] = some y3 := g3
    have g4 := hf 4 _ rfl
    have k4 : DataW.trod enc Try.prog w 0 spare held n 9 [c7] = some y4 := g4
    obtain ⟨v0, e0, rfl, wf0⟩ := DataW.trod_int Try.underlying3 k0
    obtain rfl : c0 = _ := by simpa using e0
    obtain ⟨v1, e1, rfl, _⟩ := DataW.trod_string Try.underlying9 k1
    obtain rfl : c1 = _ := by simpa using e1
    obtain ⟨v2, ok2, rfl, rfl, rfl, rfl⟩ := set_reads k2
    obtain ⟨v3, e3, rfl, _⟩ := DataW.trod_string Try.underlying9 k3
    obtain rfl : c6 = _ := by simpa using e3
    obtain ⟨v4, e4, rfl, _⟩ := DataW.trod_string Try.underlying9 k4
    obtain rfl : c7 = _ := by simpa using e4
    rw [DataW.weights, Try.underlying61] at hw
    simp only [List.map_cons, List.map_nil, DataW.weightsEach, DataW.weights, List.nil_append, List.append_nil, List.mem_append, List.mem_cons, List.not_mem_nil, or_false, false_or] at hw
    have s1 : short v1 := by
      have := hw v1.data.toList.length (by simp)
      simpa [short] using this
    have s3 : short v3 := by
      have := hw v3.data.toList.length (by simp)
      simpa [short] using this
    have s4 : short v4 := by
      have := hw v4.data.toList.length (by simp)
      simpa [short] using this
    exact ⟨⟨v0, v1, v2, v3, v4⟩, fun b o hc => ⟨⟨wf_i64 wf0, s1, ok2, s3, s4⟩, hc⟩⟩
set_option maxRecDepth 100000 in
/-- A production's cells. -/
theorem prod_reads {fuel : Nat} {cs : List Value} {x : DataW H × List MemPlace} (h : DataW.trod enc Try.prog w 0 spare held fuel 38 cs = some x) (hw : ∀ n ∈ DataW.weights Try.prog 38 x.1, n ≤ 140737488351232) :
    ∃ p : Pd, ∃ a c, cs = [.bool p.lex, .string p.sort, .string p.cons, .bool p.bracket, .slice a p.syms.length c] ∧ p.ok ∧ Row SyAt 8 p.syms a w ∧ p.syms.length ≤ c := by
    obtain ⟨xs, n, rfl, rfl, hl, hxs, hf⟩ := DataW.trod_struct Try.underlying38 h
    have hl2 : cs.length = 5 := hl.trans (by kernel_rfl)
    match cs, hl2 with
    | [c0, c1, c2, c3, c4], _ =>
    match xs, hxs with
    | [y0, y1, y2, y3, y4], _ =>
    have g0 := hf 0 _ rfl
    have k0 : DataW.trod enc Try.prog w 0 spare held n 4 [c0] = some y0 := g0
    have g1 := hf 1 _ rfl
    have k1 : DataW.trod enc Try.prog w 0 spare held n 9 [c1] = some y1 := g1
    have g2 := hf 2 _ rfl
    have k2 : DataW.trod enc Try.prog w 0 spare held n 9 [c2] = some y2 := g2
    have g3 := hf 3 _ rfl
    have k3 : DataW.trod enc Try.prog w 0 spare held n 4 [c3] = some y3 := g3
    have g4 := hf 4 _ rfl
    have k4 : DataW.trod enc Try.prog w 0 spare held n 36 [c4] = some y4 := g4
    obtain ⟨v0, e0, rfl⟩ := DataW.trod_bool Try.underlying4 k0
    obtain rfl : c0 = _ := by simpa using e0
    obtain ⟨v1, e1, rfl, _⟩ := DataW.trod_string Try.underlying9 k1
    obtain rfl : c1 = _ := by simpa using e1
    obtain ⟨v2, e2, rfl, _⟩ := DataW.trod_string Try.underlying9 k2
    obtain rfl : c2 = _ := by simpa using e2
    obtain ⟨v3, e3, rfl⟩ := DataW.trod_bool Try.underlying4 k3
    obtain rfl : c3 = _ := by simpa using e3
    rw [DataW.weights, Try.underlying38] at hw
    simp only [List.map_cons, List.map_nil, DataW.weightsEach, DataW.weights, List.nil_append, List.append_nil, List.mem_append, List.mem_cons, List.not_mem_nil, or_false, false_or] at hw
    have s1 : short v1 := by
      have := hw v1.data.toList.length (by simp)
      simpa [short] using this
    have s2 : short v2 := by
      have := hw v2.data.toList.length (by simp)
      simpa [short] using this
    obtain ⟨a4, p4, l4, e4, r4, q4⟩ := slice_reads (At := SyAt) (sz := 8) Try.underlying36 (by kernel_rfl) (by decide) (of_decide_eq_true (by kernel_rfl)) k4 (fun n hn => hw n (by simp [hn])) (fun m _ => rd61 m)
    obtain rfl : c4 = _ := by simpa using e4
    exact ⟨⟨v0, v1, v2, v3, l4⟩, a4, p4, rfl, ⟨s1, s2⟩, r4, q4⟩
theorem rd38 (m : Nat) : Rd1 enc w spare held 38 PdAt m := by
  intro cs x h hw
  obtain ⟨p, a, c, rfl, ho, hr, hq⟩ := prod_reads h hw
  exact ⟨p, fun b o hc => ⟨ho, a, c, hc, hr, hq⟩⟩
set_option maxRecDepth 100000 in
theorem rd68 (m : Nat) : Rd1 enc w spare held 68 GpAt m := by
    intro cs x h hw
    obtain ⟨xs, n, rfl, rfl, hl, hxs, hf⟩ := DataW.trod_struct Try.underlying68 h
    have hl2 : cs.length = 2 := hl.trans (by kernel_rfl)
    match cs, hl2 with
    | [c0, c1], _ =>
    match xs, hxs with
    | [y0, y1], _ =>
    have g0 := hf 0 _ rfl
    have k0 : DataW.trod enc Try.prog w 0 spare held n 3 [c0] = some y0 := g0
    have g1 := hf 1 _ rfl
    have k1 : DataW.trod enc Try.prog w 0 spare held n 56 [c1] = some y1 := g1
    obtain ⟨v0, e0, rfl, wf0⟩ := DataW.trod_int Try.underlying3 k0
    obtain rfl : c0 = _ := by simpa using e0
    rw [DataW.weights, Try.underlying68] at hw
    simp only [List.map_cons, List.map_nil, DataW.weightsEach, DataW.weights, List.nil_append, List.append_nil, List.mem_append, List.mem_cons, List.not_mem_nil, or_false, false_or] at hw
    obtain ⟨a1, p1, l1, e1, r1, q1⟩ := slice_reads (At := StrAt) (sz := 1) Try.underlying56 (by kernel_rfl) (by decide) (of_decide_eq_true (by kernel_rfl)) k1 (fun n hn => hw n (by simp [hn])) (fun m _ => rd9 m)
    obtain rfl : c1 = _ := by simpa using e1
    exact ⟨⟨v0, l1⟩, fun b o hc => ⟨wf_i64 wf0, a1, p1, hc, r1⟩⟩
set_option maxRecDepth 100000 in
theorem rd66 (m : Nat) : Rd1 enc w spare held 66 ChAt m := by
  intro cs x h hw
  obtain ⟨a, c, l, rfl, hr, _⟩ := slice_reads (At := GpAt) (sz := 2) Try.underlying66 (by kernel_rfl) (by decide) (of_decide_eq_true (by kernel_rfl)) h hw (fun m _ => rd68 m)
  exact ⟨l, fun b o hc => ⟨a, c, hc 0 _ rfl, hr⟩⟩
set_option maxRecDepth 100000 in
theorem rd48 (m : Nat) : Rd1 enc w spare held 48 FlAt m := by
    intro cs x h hw
    obtain ⟨xs, n, rfl, rfl, hl, hxs, hf⟩ := DataW.trod_struct Try.underlying48 h
    have hl2 : cs.length = 5 := hl.trans (by kernel_rfl)
    match cs, hl2 with
    | [c0, c1, c2, c3, c4], _ =>
    match xs, hxs with
    | [y0, y1], _ =>
    have g0 := hf 0 _ rfl
    have k0 : DataW.trod enc Try.prog w 0 spare held n 9 [c0] = some y0 := g0
    have g1 := hf 1 _ rfl
    have k1 : DataW.trod enc Try.prog w 0 spare held n 46 [c1, c2, c3, c4] = some y1 := g1
    obtain ⟨v0, e0, rfl, _⟩ := DataW.trod_string Try.underlying9 k0
    obtain rfl : c0 = _ := by simpa using e0
    obtain ⟨v1, ok1, rfl, rfl, rfl, rfl⟩ := set_reads k1
    rw [DataW.weights, Try.underlying48] at hw
    simp only [List.map_cons, List.map_nil, DataW.weightsEach, DataW.weights, List.nil_append, List.append_nil, List.mem_append, List.mem_cons, List.not_mem_nil, or_false, false_or] at hw
    have s0 : short v0 := by
      have := hw v0.data.toList.length (by simp)
      simpa [short] using this
    exact ⟨⟨v0, v1⟩, fun b o hc => ⟨⟨s0, ok1⟩, hc⟩⟩
set_option maxRecDepth 100000 in
theorem rd50 (m : Nat) : Rd1 enc w spare held 50 RjAt m := by
    intro cs x h hw
    obtain ⟨xs, n, rfl, rfl, hl, hxs, hf⟩ := DataW.trod_struct Try.underlying50 h
    have hl2 : cs.length = 2 := hl.trans (by kernel_rfl)
    match cs, hl2 with
    | [c0, c1], _ =>
    match xs, hxs with
    | [y0, y1], _ =>
    have g0 := hf 0 _ rfl
    have k0 : DataW.trod enc Try.prog w 0 spare held n 9 [c0] = some y0 := g0
    have g1 := hf 1 _ rfl
    have k1 : DataW.trod enc Try.prog w 0 spare held n 9 [c1] = some y1 := g1
    obtain ⟨v0, e0, rfl, _⟩ := DataW.trod_string Try.underlying9 k0
    obtain rfl : c0 = _ := by simpa using e0
    obtain ⟨v1, e1, rfl, _⟩ := DataW.trod_string Try.underlying9 k1
    obtain rfl : c1 = _ := by simpa using e1
    rw [DataW.weights, Try.underlying50] at hw
    simp only [List.map_cons, List.map_nil, DataW.weightsEach, DataW.weights, List.nil_append, List.append_nil, List.mem_append, List.mem_cons, List.not_mem_nil, or_false, false_or] at hw
    have s0 : short v0 := by
      have := hw v0.data.toList.length (by simp)
      simpa [short] using this
    have s1 : short v1 := by
      have := hw v1.data.toList.length (by simp)
      simpa [short] using this
    exact ⟨⟨v0, v1⟩, fun b o hc => ⟨⟨s0, s1⟩, hc⟩⟩
set_option maxRecDepth 100000 in
theorem rd96 (m : Nat) : Rd1 enc w spare held 96 ItAt m := by
  induction m using Nat.strongRecOn with
  | ind m ih =>
    intro cs x h hw
    obtain ⟨xs, n, rfl, rfl, hl, hxs, hf⟩ := DataW.trod_struct Try.underlying96 h
    have hl2 : cs.length = 4 := hl.trans (by kernel_rfl)
    match cs, hl2 with
    | [c0, c1, c2, c3], _ =>
    match xs, hxs with
    | [y0, y1, y2, y3], _ =>
    have g0 := hf 0 _ rfl
    have k0 : DataW.trod enc Try.prog w 0 spare held n 3 [c0] = some y0 := g0
    have g1 := hf 1 _ rfl
    have k1 : DataW.trod enc Try.prog w 0 spare held n 9 [c1] = some y1 := g1
    have g2 := hf 2 _ rfl
    have k2 : DataW.trod enc Try.prog w 0 spare held n 3 [c2] = some y2 := g2
    have g3 := hf 3 _ rfl
    have k3 : DataW.trod enc Try.prog w 0 spare held n 51 [c3] = some y3 := g3
    obtain ⟨v0, e0, rfl, wf0⟩ := DataW.trod_int Try.underlying3 k0
    obtain rfl : c0 = _ := by simpa using e0
    obtain ⟨v1, e1, rfl, _⟩ := DataW.trod_string Try.underlying9 k1
    obtain rfl : c1 = _ := by simpa using e1
    obtain ⟨v2, e2, rfl, wf2⟩ := DataW.trod_int Try.underlying3 k2
    obtain rfl : c2 = _ := by simpa using e2
    rw [DataW.weights, Try.underlying96] at hw
    simp only [List.map_cons, List.map_nil, DataW.weightsEach, DataW.weights, List.nil_append, List.append_nil, List.mem_append, List.mem_cons, List.not_mem_nil, or_false, false_or] at hw
    have s1 : short v1 := by
      have := hw v1.data.toList.length (by simp)
      simpa [short] using this
    obtain ⟨a3, p3, l3, e3, r3, q3⟩ := slice_reads (At := ItAt) (sz := 4) Try.underlying51 (by kernel_rfl) (by decide) (of_decide_eq_true (by kernel_rfl)) k3 (fun n hn => hw n (by simp [hn])) (fun m hm => ih m (by omega))
    obtain rfl : c3 = _ := by simpa using e3
    exact ⟨.mk v0 v1 v2 l3, fun b o hc => (itAt_iff _ b o w).2 ⟨wf_i64 wf0, s1, wf_i64 wf2, a3, p3, hc, r3⟩⟩
set_option maxRecDepth 100000 in
theorem rd53 (m : Nat) : Rd1 enc w spare held 53 BxAt m := by
    intro cs x h hw
    obtain ⟨xs, n, rfl, rfl, hl, hxs, hf⟩ := DataW.trod_struct Try.underlying53 h
    have hl2 : cs.length = 2 := hl.trans (by kernel_rfl)
    match cs, hl2 with
    | [c0, c1], _ =>
    match xs, hxs with
    | [y0, y1], _ =>
    have g0 := hf 0 _ rfl
    have k0 : DataW.trod enc Try.prog w 0 spare held n 9 [c0] = some y0 := g0
    have g1 := hf 1 _ rfl
    have k1 : DataW.trod enc Try.prog w 0 spare held n 51 [c1] = some y1 := g1
    obtain ⟨v0, e0, rfl, _⟩ := DataW.trod_string Try.underlying9 k0
    obtain rfl : c0 = _ := by simpa using e0
    rw [DataW.weights, Try.underlying53] at hw
    simp only [List.map_cons, List.map_nil, DataW.weightsEach, DataW.weights, List.nil_append, List.append_nil, List.mem_append, List.mem_cons, List.not_mem_nil, or_false, false_or] at hw
    have s0 : short v0 := by
      have := hw v0.data.toList.length (by simp)
      simpa [short] using this
    obtain ⟨a1, p1, l1, e1, r1, q1⟩ := slice_reads (At := ItAt) (sz := 4) Try.underlying51 (by kernel_rfl) (by decide) (of_decide_eq_true (by kernel_rfl)) k1 (fun n hn => hw n (by simp [hn])) (fun m _ => rd96 m)
    obtain rfl : c1 = _ := by simpa using e1
    exact ⟨⟨v0, l1⟩, fun b o hc => ⟨s0, a1, p1, hc, r1⟩⟩
set_option maxRecDepth 100000 in
theorem def_reads {fuel : Nat} {cs : List Value} {x : DataW H × List MemPlace} (h : DataW.trod enc Try.prog w 0 spare held fuel 28 cs = some x) (hw : ∀ n ∈ DataW.weights Try.prog 28 x.1, n ≤ 140737488351232) :
    ∃ d : Df, ∃ a2 c2 a3 c3 a4 c4 a5 c5 a6 c6, cs = [.string d.start, .string d.layout, .slice a2 d.prods.length c2, .slice a3 d.chains.length c3, .slice a4 d.follows.length c4, .slice a5 d.rejects.length c5, .slice a6 d.boxes.length c6] ∧ RD d ⟨a2, c2, a3, c3, a4, c4, a5, c5, a6, c6⟩ w := by
    obtain ⟨xs, n, rfl, rfl, hl, hxs, hf⟩ := DataW.trod_struct Try.underlying28 h
    have hl2 : cs.length = 7 := hl.trans (by kernel_rfl)
    match cs, hl2 with
    | [c0, c1, c2, c3, c4, c5, c6], _ =>
    match xs, hxs with
    | [y0, y1, y2, y3, y4, y5, y6], _ =>
    have g0 := hf 0 _ rfl
    have k0 : DataW.trod enc Try.prog w 0 spare held n 9 [c0] = some y0 := g0
    have g1 := hf 1 _ rfl
    have k1 : DataW.trod enc Try.prog w 0 spare held n 9 [c1] = some y1 := g1
    have g2 := hf 2 _ rfl
    have k2 : DataW.trod enc Try.prog w 0 spare held n 22 [c2] = some y2 := g2
    have g3 := hf 3 _ rfl
    have k3 : DataW.trod enc Try.prog w 0 spare held n 23 [c3] = some y3 := g3
    have g4 := hf 4 _ rfl
    have k4 : DataW.trod enc Try.prog w 0 spare held n 24 [c4] = some y4 := g4
    have g5 := hf 5 _ rfl
    have k5 : DataW.trod enc Try.prog w 0 spare held n 25 [c5] = some y5 := g5
    have g6 := hf 6 _ rfl
    have k6 : DataW.trod enc Try.prog w 0 spare held n 26 [c6] = some y6 := g6
    obtain ⟨v0, e0, rfl, _⟩ := DataW.trod_string Try.underlying9 k0
    obtain rfl : c0 = _ := by simpa using e0
    obtain ⟨v1, e1, rfl, _⟩ := DataW.trod_string Try.underlying9 k1
    obtain rfl : c1 = _ := by simpa using e1
    rw [DataW.weights, Try.underlying28] at hw
    simp only [List.map_cons, List.map_nil, DataW.weightsEach, DataW.weights, List.nil_append, List.append_nil, List.mem_append, List.mem_cons, List.not_mem_nil, or_false, false_or] at hw
    have s0 : short v0 := by
      have := hw v0.data.toList.length (by simp)
      simpa [short] using this
    have s1 : short v1 := by
      have := hw v1.data.toList.length (by simp)
      simpa [short] using this
    obtain ⟨a2, p2, l2, e2, r2, q2⟩ := slice_reads (At := PdAt) (sz := 5) Try.underlying22 (by kernel_rfl) (by decide) (of_decide_eq_true (by kernel_rfl)) k2 (fun n hn => hw n (by simp [hn])) (fun m _ => rd38 m)
    obtain rfl : c2 = _ := by simpa using e2
    obtain ⟨a3, p3, l3, e3, r3, q3⟩ := slice_reads (At := ChAt) (sz := 1) Try.underlying23 (by kernel_rfl) (by decide) (of_decide_eq_true (by kernel_rfl)) k3 (fun n hn => hw n (by simp [hn])) (fun m _ => rd66 m)
    obtain rfl : c3 = _ := by simpa using e3
    obtain ⟨a4, p4, l4, e4, r4, q4⟩ := slice_reads (At := FlAt) (sz := 5) Try.underlying24 (by kernel_rfl) (by decide) (of_decide_eq_true (by kernel_rfl)) k4 (fun n hn => hw n (by simp [hn])) (fun m _ => rd48 m)
    obtain rfl : c4 = _ := by simpa using e4
    obtain ⟨a5, p5, l5, e5, r5, q5⟩ := slice_reads (At := RjAt) (sz := 2) Try.underlying25 (by kernel_rfl) (by decide) (of_decide_eq_true (by kernel_rfl)) k5 (fun n hn => hw n (by simp [hn])) (fun m _ => rd50 m)
    obtain rfl : c5 = _ := by simpa using e5
    obtain ⟨a6, p6, l6, e6, r6, q6⟩ := slice_reads (At := BxAt) (sz := 2) Try.underlying26 (by kernel_rfl) (by decide) (of_decide_eq_true (by kernel_rfl)) k6 (fun n hn => hw n (by simp [hn])) (fun m _ => rd53 m)
    obtain rfl : c6 = _ := by simpa using e6
    exact ⟨⟨v0, v1, l2, l3, l4, l5, l6⟩, a2, p2, a3, p3, a4, p4, a5, p5, a6, p6, rfl, ⟨s0, s1, r2, r3, r4, r5, r6, q5⟩⟩
set_option maxRecDepth 100000 in
/-- An argument of the type of definitions. -/
theorem open_def {base : Nat} {v : Value} {d : DataW H} {p : List MemPlace} (hv : Value.okWide Try.prog w .any base 28 v) (h : DataW.Trod enc Try.prog w 0 spare held 28 v d p)
    (hw : ∀ n ∈ DataW.weights Try.prog 28 d, n ≤ 140737488351232) : ∃ d : Df, ∃ a2 c2 a3 c3 a4 c4 a5 c5 a6 c6, v = .agg #[.string d.start, .string d.layout, .slice a2 d.prods.length c2, .slice a3 d.chains.length c3, .slice a4 d.follows.length c4, .slice a5 d.rejects.length c5, .slice a6 d.boxes.length c6] ∧ RD d ⟨a2, c2, a3, c3, a4, c4, a5, c5, a6, c6⟩ w := by
  obtain ⟨cs, rfl, _⟩ := okWide_struct Try.underlying28 hv
  obtain ⟨fuel, hf⟩ := h
  obtain ⟨d, a2, c2, a3, c3, a4, c4, a5, c5, a6, c6, e, hT⟩ := def_reads hf hw
  obtain rfl : cs = #[.string d.start, .string d.layout, .slice a2 d.prods.length c2, .slice a3 d.chains.length c3, .slice a4 d.follows.length c4, .slice a5 d.rejects.length c5, .slice a6 d.boxes.length c6] := by
    have : cs.toList = _ := e
    exact Array.toList_inj.1 this
  exact ⟨d, a2, c2, a3, c3, a4, c4, a5, c5, a6, c6, rfl, hT⟩
set_option maxRecDepth 100000 in
/-- An argument of the type of productions. -/
theorem open_prod {base : Nat} {v : Value} {d : DataW H} {p : List MemPlace} (hv : Value.okWide Try.prog w .any base 38 v) (h : DataW.Trod enc Try.prog w 0 spare held 38 v d p)
    (hw : ∀ n ∈ DataW.weights Try.prog 38 d, n ≤ 140737488351232) : ∃ p : Pd, ∃ a c, v = .agg #[.bool p.lex, .string p.sort, .string p.cons, .bool p.bracket, .slice a p.syms.length c] ∧ Row SyAt 8 p.syms a w := by
  obtain ⟨cs, rfl, _⟩ := okWide_struct Try.underlying38 hv
  obtain ⟨fuel, hf⟩ := h
  obtain ⟨p, a, c, e, _, hr, _⟩ := prod_reads hf hw
  obtain rfl : cs = #[.bool p.lex, .string p.sort, .string p.cons, .bool p.bracket, .slice a p.syms.length c] := by
    have : cs.toList = _ := e
    exact Array.toList_inj.1 this
  exact ⟨p, a, c, rfl, hr⟩
theorem trod_old {t : TypeId} {v : Value} {d : DataW H} {p : List MemPlace} (h : DataW.Trod enc Try.prog w 0 spare held t v d p) : ∀ x ∈ p, x.block < w.heap.size := by
  obtain ⟨m, hm⟩ := h
  exact DataW.trod_lt m _ _ _ hm
end
end Go.Proofs.Ytalicfpcmcbdbaa
