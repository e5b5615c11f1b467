/- What is handed in reads as definitions; their items are of no more bytes than there can be. -/
import Derived.Test.YtalicfpcmcbdbaaZArgs
import Derived.Test.YtalicfpcmcbdbaaZCpE
set_option linter.unusedVariables false
set_option linter.unusedSimpArgs false
set_option linter.unnecessarySimpa false
set_option linter.deprecated false
namespace Go.Proofs.Ytalicfpcmcbdbaa
open Go.ChangeShapes Go.WideShapes Go.ChangeAt Go.RowKit

def ItAtF (x : It) (b o : Nat) (W : World) : Prop := ItAt x b o W ∧ FitI x
def BxAtF (x : Bx) (b o : Nat) (W : World) : Prop := BxAt x b o W ∧ FitIs x.items
theorem bytes96 : Try.prog.bytesOf 96 = 56 := by kernel_rfl
theorem Row.imp {α : Type} {At At2 : α → Nat → Nat → World → Prop} {sz : Nat} {l : List α} {a : Option Addr} {W : World} (h : Row At sz l a W) (hi : ∀ {x b o}, At x b o W → At2 x b o W) : Row At2 sz l a W := ⟨h.1, fun hn => by
  obtain ⟨b, o, e, hb, hat⟩ := h.2 hn
  exact ⟨b, o, e, hb, fun i hl => hi (hat i hl)⟩⟩
theorem Row.fits {l : List It} {a : Option Addr} {W : World} (h : Row ItAtF 4 l a W) : ∀ x ∈ l, FitI x := fun x hx => by
  obtain ⟨i, hi, rfl⟩ := List.getElem_of_mem hx
  obtain ⟨b, o, _, _, hat⟩ := h.get hi
  exact (hat i hi).2
theorem Row.boxes {l : List Bx} {a : Option Addr} {W : World} (h : Row BxAtF 2 l a W) : ∀ x ∈ l, FitIs x.items := fun x hx => by
  obtain ⟨i, hi, rfl⟩ := List.getElem_of_mem hx
  obtain ⟨b, o, _, _, hat⟩ := h.get hi
  exact (hat i hi).2
section
variable {H : Type} {enc : TypeId × Value → H} {w : World} {spare : Nat → Bool} {held : Bool}
theorem slice_readsF {α : Type} {At : α → Nat → Nat → World → Prop} {t e : TypeId} {sz : Nat} (ht : Try.prog.underlying t = some (.slice e)) (hsz : Try.prog.cellsOf e = sz) (hpos : 0 < sz) (hby : 0 < Try.prog.bytesOf e) {fuel : Nat} {cs : List Value} {x : DataW H × List MemPlace}
    (h : DataW.trod enc Try.prog w 0 spare held fuel t cs = some x) (hw : ∀ n ∈ DataW.weights Try.prog t x.1, n ≤ 140737488351232) (each : ∀ m, m < fuel → Rd1 enc w spare held e At m) : ∃ a cap, ∃ l : List α, cs = [.slice a l.length cap] ∧ Row At sz l a w ∧ l.length ≤ cap ∧ l.length * Try.prog.bytesOf e ≤ 140737488351232 := by
  rcases DataW.trod_slice ht h with ⟨e3, rfl⟩ | ⟨a, len, cap, elems, rest, m, rfl, e3, rfl, hb, hle, hcap, hel, hall, hsp, hns⟩
  · exact ⟨none, 0, [], e3, Row.nil, Nat.le_refl _, by simp⟩
  · rw [DataW.weights, ht] at hw
    simp only [List.length_map] at hw
    have hlen : len ≤ 140737488351232 := by
      have h1 := hw _ (List.mem_cons_self ..)
      have h2 : elems.length + rest.length ≤ (elems.length + rest.length) * Try.prog.bytesOf e := Nat.le_mul_of_pos_right _ hby
      omega
    have hbl : len * Try.prog.bytesOf e ≤ 140737488351232 := by
      have h1 := hw _ (List.mem_cons_self ..)
      have h2 : len * Try.prog.bytesOf e ≤ (elems.length + rest.length) * Try.prog.bytesOf e := Nat.mul_le_mul_right _ (by omega)
      exact Nat.le_trans h2 h1
    have hq : ∀ i, i < len → ∃ y : α, ∃ cs' : List Value, cs'.length = sz ∧ (∀ j, j < sz → w.cell? (a.add (i * sz + j)) = cs'[j]?) ∧ ∀ b o, CellsAt cs' b o w → At y b o w := by
      intro i hi
      have := hall i hi
      rw [List.getElem?_eq_getElem (by omega)] at this
      obtain ⟨cs', hcs, htr⟩ := Option.bind_eq_some_iff.1 this
      obtain ⟨y, hy⟩ := each m (by omega) cs' _ htr (fun n hn => hw n (List.mem_cons_of_mem _ (List.mem_append_left _ (weights_mem (List.mem_map.2 ⟨_, List.getElem_mem (by omega), rfl⟩) n hn))))
      rw [hsz] at hcs
      obtain ⟨_, hl, hg⟩ := World.cells?_some hcs
      refine ⟨y, cs', hl, fun j hj => ?_, hy⟩
      have := hg j hj
      rw [add_more] at this
      exact this
    obtain ⟨l, hl, hks⟩ := spread hq
    refine ⟨some a, cap, l, by rw [hl]; exact e3, ⟨by omega, fun hn => ?_⟩, by omega, by rw [hl]; exact hbl⟩
    have hp : 0 < l.length := List.length_pos_iff.2 hn
    obtain ⟨cs0, hl0, hc0, _⟩ := hks 0 hp
    have hc00 := hc0 0 hpos
    rw [List.getElem?_eq_getElem (by omega)] at hc00
    have q0 := cell_spot hc00
    obtain ⟨b, o, sp⟩ := a
    have hsp0 : sp = none ∧ b < w.heap.size := by
      have hz : (⟨b, o, sp⟩ : Addr).add (0 * sz + 0) = ⟨b, o, sp⟩ := by unfold Addr.add; simp
      rw [hz] at q0
      exact q0
    obtain ⟨rfl, h2⟩ := hsp0
    refine ⟨b, o, rfl, h2, fun i hi => ?_⟩
    obtain ⟨cs', hl', hc', hy⟩ := hks i hi
    refine hy b (o + i * sz) fun j u hj => ?_
    have hjl : j < sz := by rw [← hl']; exact (List.getElem?_eq_some_iff.1 hj).1
    have := hc' j hjl
    rw [add_lit0, ← Nat.add_assoc] at this
    rw [this, hj]
set_option maxRecDepth 100000 in
theorem rd96F (m : Nat) : Rd1 enc w spare held 96 ItAtF m := by
  induction m using Nat.strongRecOn with
  | ind m ih =>
    intro cs x h hw
    obtain ⟨xs, n, rfl, rfl, hl, hxs, hf⟩ := DataW.trod_struct Try.underlying96 h
    have hl2 : cs.length = 4 := hl.trans (by kernel_rfl)
    match cs, hl2 with
    | [c0, c1, c2, c3], _ =>
    match xs, hxs with
    | [y0, y1, y2, y3], _ =>
    have g0 := hf 0 _ rfl
    have k0 : DataW.trod enc Try.prog w 0 spare held n 3 [c0] = some y0 := g0
    have g1 := hf 1 _ rfl
    have k1 : DataW.trod enc Try.prog w 0 spare held n 9 [c1] = some y1 := g1
    have g2 := hf 2 _ rfl
    have k2 : DataW.trod enc Try.prog w 0 spare held n 3 [c2] = some y2 := g2
    have g3 := hf 3 _ rfl
    have k3 : DataW.trod enc Try.prog w 0 spare held n 51 [c3] = some y3 := g3
    obtain ⟨v0, e0, rfl, wf0⟩ := DataW.trod_int Try.underlying3 k0
    obtain rfl : c0 = _ := by simpa using e0
    obtain ⟨v1, e1, rfl, _⟩ := DataW.trod_string Try.underlying9 k1
    obtain rfl : c1 = _ := by simpa using e1
    obtain ⟨v2, e2, rfl, wf2⟩ := DataW.trod_int Try.underlying3 k2
    obtain rfl : c2 = _ := by simpa using e2
    rw [DataW.weights, Try.underlying96] at hw
    simp only [List.map_cons, List.map_nil, DataW.weightsEach, DataW.weights, List.nil_append, List.append_nil, List.mem_append, List.mem_cons, List.not_mem_nil, or_false, false_or] at hw
    have s1 : short v1 := by
      have := hw v1.data.toList.length (by simp)
      simpa [short] using this
    obtain ⟨a3, p3, l3, e3, r3, q3, z3⟩ := slice_readsF (At := ItAtF) (sz := 4) Try.underlying51 (by kernel_rfl) (by decide) (of_decide_eq_true (by kernel_rfl)) k3 (fun n hn => hw n (by simp [hn])) (fun m hm => ih m (by omega))
    obtain rfl : c3 = _ := by simpa using e3
    rw [bytes96] at z3
    exact ⟨.mk v0 v1 v2 l3, fun b o hc => ⟨(itAt_iff _ b o w).2 ⟨wf_i64 wf0, s1, wf_i64 wf2, a3, p3, hc, r3.imp (fun h => h.1)⟩, .mk _ z3 r3.fits⟩⟩
set_option maxRecDepth 100000 in
theorem rd53F (m : Nat) : Rd1 enc w spare held 53 BxAtF m := by
    intro cs x h hw
    obtain ⟨xs, n, rfl, rfl, hl, hxs, hf⟩ := DataW.trod_struct Try.underlying53 h
    have hl2 : cs.length = 2 := hl.trans (by kernel_rfl)
    match cs, hl2 with
    | [c0, c1], _ =>
    match xs, hxs with
    | [y0, y1], _ =>
    have g0 := hf 0 _ rfl
    have k0 : DataW.trod enc Try.prog w 0 spare held n 9 [c0] = some y0 := g0
    have g1 := hf 1 _ rfl
    have k1 : DataW.trod enc Try.prog w 0 spare held n 51 [c1] = some y1 := g1
    obtain ⟨v0, e0, rfl, _⟩ := DataW.trod_string Try.underlying9 k0
    obtain rfl : c0 = _ := by simpa using e0
    rw [DataW.weights, Try.underlying53] at hw
    simp only [List.map_cons, List.map_nil, DataW.weightsEach, DataW.weights, List.nil_append, List.append_nil, List.mem_append, List.mem_cons, List.not_mem_nil, or_false, false_or] at hw
    have s0 : short v0 := by
      have := hw v0.data.toList.length (by simp)
      simpa [short] using this
    obtain ⟨a1, p1, l1, e1, r1, q1, z1⟩ := slice_readsF (At := ItAtF) (sz := 4) Try.underlying51 (by kernel_rfl) (by decide) (of_decide_eq_true (by kernel_rfl)) k1 (fun n hn => hw n (by simp [hn])) (fun m _ => rd96F m)
    obtain rfl : c1 = _ := by simpa using e1
    rw [bytes96] at z1
    exact ⟨⟨v0, l1⟩, fun b o hc => ⟨⟨s0, a1, p1, hc, r1.imp (fun h => h.1)⟩, z1, r1.fits⟩⟩
set_option maxRecDepth 100000 in
theorem def_readsF {fuel : Nat} {cs : List Value} {x : DataW H × List MemPlace} (h : DataW.trod enc Try.prog w 0 spare held fuel 28 cs = some x) (hw : ∀ n ∈ DataW.weights Try.prog 28 x.1, n ≤ 140737488351232) :
    ∃ d : Df, ∃ a2 c2 a3 c3 a4 c4 a5 c5 a6 c6, cs = [.string d.start, .string d.layout, .slice a2 d.prods.length c2, .slice a3 d.chains.length c3, .slice a4 d.follows.length c4, .slice a5 d.rejects.length c5, .slice a6 d.boxes.length c6] ∧ RD d ⟨a2, c2, a3, c3, a4, c4, a5, c5, a6, c6⟩ w ∧ ∀ x ∈ d.boxes, FitIs x.items := by
    obtain ⟨xs, n, rfl, rfl, hl, hxs, hf⟩ := DataW.trod_struct Try.underlying28 h
    have hl2 : cs.length = 7 := hl.trans (by kernel_rfl)
    match cs, hl2 with
    | [c0, c1, c2, c3, c4, c5, c6], _ =>
    match xs, hxs with
    | [y0, y1, y2, y3, y4, y5, y6], _ =>
    have g0 := hf 0 _ rfl
    have k0 : DataW.trod enc Try.prog w 0 spare held n 9 [c0] = some y0 := g0
    have g1 := hf 1 _ rfl
    have k1 : DataW.trod enc Try.prog w 0 spare held n 9 [c1] = some y1 := g1
    have g2 := hf 2 _ rfl
    have k2 : DataW.trod enc Try.prog w 0 spare held n 22 [c2] = some y2 := g2
    have g3 := hf 3 _ rfl
    have k3 : DataW.trod enc Try.prog w 0 spare held n 23 [c3] = some y3 := g3
    have g4 := hf 4 _ rfl
    have k4 : DataW.trod enc Try.prog w 0 spare held n 24 [c4] = some y4 := g4
    have g5 := hf 5 _ rfl
    have k5 : DataW.trod enc Try.prog w 0 spare held n 25 [c5] = some y5 := g5
    have g6 := hf 6 _ rfl
    have k6 : DataW.trod enc Try.prog w 0 spare held n 26 [c6] = some y6 := g6
    obtain ⟨v0, e0, rfl, _⟩ := DataW.trod_string Try.underlying9 k0
    obtain rfl : c0 = _ := by simpa using e0
    obtain ⟨v1, e1, rfl, _⟩ := DataW.trod_string Try.underlying9 k1
    obtain rfl : c1 = _ := by simpa using e1
    rw [DataW.weights, Try.underlying28] at hw
    simp only [List.map_cons, List.map_nil, DataW.weightsEach, DataW.weights, List.nil_append, List.append_nil, List.mem_append, List.mem_cons, List.not_mem_nil, or_false, false_or] at hw
    have s0 : short v0 := by
      have := hw v0.data.toList.length (by simp)
      simpa [short] using this
    have s1 : short v1 := by
      have := hw v1.data.toList.length (by simp)
      simpa [short] using this
    obtain ⟨a2, p2, l2, e2, r2, q2⟩ := slice_reads (At := PdAt) (sz := 5) Try.underlying22 (by kernel_rfl) (by decide) (of_decide_eq_true (by kernel_rfl)) k2 (fun n hn => hw n (by simp [hn])) (fun m _ => rd38 m)
    obtain rfl : c2 = _ := by simpa using e2
    obtain ⟨a3, p3, l3, e3, r3, q3⟩ := slice_reads (At := ChAt) (sz := 1) Try.underlying23 (by kernel_rfl) (by decide) (of_decide_eq_true (by kernel_rfl)) k3 (fun n hn => hw n (by simp [hn])) (fun m _ => rd66 m)
    obtain rfl : c3 = _ := by simpa using e3
    obtain ⟨a4, p4, l4, e4, r4, q4⟩ := slice_reads (At := FlAt) (sz := 5) Try.underlying24 (by kernel_rfl) (by decide) (of_decide_eq_true (by kernel_rfl)) k4 (fun n hn => hw n (by simp [hn])) (fun m _ => rd48 m)
    obtain rfl : c4 = _ := by simpa using e4
    obtain ⟨a5, p5, l5, e5, r5, q5⟩ := slice_reads (At := RjAt) (sz := 2) Try.underlying25 (by kernel_rfl) (by decide) (of_decide_eq_true (by kernel_rfl)) k5 (fun n hn => hw n (by simp [hn])) (fun m _ => rd50 m)
    obtain rfl : c5 = _ := by simpa using e5
    obtain ⟨a6, p6, l6, e6, r6, q6⟩ := slice_reads (At := BxAtF) (sz := 2) Try.underlying26 (by kernel_rfl) (by decide) (of_decide_eq_true (by kernel_rfl)) k6 (fun n hn => hw n (by simp [hn])) (fun m _ => rd53F m)
    obtain rfl : c6 = _ := by simpa using e6
    exact ⟨⟨v0, v1, l2, l3, l4, l5, l6⟩, a2, p2, a3, p3, a4, p4, a5, p5, a6, p6, rfl, ⟨s0, s1, r2, r3, r4, r5, r6.imp (fun h => h.1), q5⟩, r6.boxes⟩
set_option maxRecDepth 100000 in
theorem open_defF {base : Nat} {v : Value} {d : DataW H} {p : List MemPlace} (hv : Value.okWide Try.prog w .any base 28 v) (h : DataW.Trod enc Try.prog w 0 spare held 28 v d p)
    (hw : ∀ n ∈ DataW.weights Try.prog 28 d, n ≤ 140737488351232) : ∃ d : Df, ∃ a2 c2 a3 c3 a4 c4 a5 c5 a6 c6, v = .agg #[.string d.start, .string d.layout, .slice a2 d.prods.length c2, .slice a3 d.chains.length c3, .slice a4 d.follows.length c4, .slice a5 d.rejects.length c5, .slice a6 d.boxes.length c6] ∧ RD d ⟨a2, c2, a3, c3, a4, c4, a5, c5, a6, c6⟩ w ∧ ∀ x ∈ d.boxes, FitIs x.items := by
  obtain ⟨cs, rfl, _⟩ := okWide_struct Try.underlying28 hv
  obtain ⟨fuel, hf⟩ := h
  obtain ⟨d, a2, c2, a3, c3, a4, c4, a5, c5, a6, c6, e, hT⟩ := def_readsF hf hw
  obtain rfl : cs = #[.string d.start, .string d.layout, .slice a2 d.prods.length c2, .slice a3 d.chains.length c3, .slice a4 d.follows.length c4, .slice a5 d.rejects.length c5, .slice a6 d.boxes.length c6] := by
    have : cs.toList = _ := e
    exact Array.toList_inj.1 this
  exact ⟨d, a2, c2, a3, c3, a4, c4, a5, c5, a6, c6, rfl, hT⟩
end
end Go.Proofs.Ytalicfpcmcbdbaa
