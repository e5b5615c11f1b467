/- The walks of strings.Builder's methods, where the builder is a part of another variable: copyCheck, WriteByte, WriteString, Len. -/
import Derived.Test.YtcmhlfnmjpmjhaaBack
import Derived.Test.YtcmhlfnmjpmjhaaShelf
import Derived.Lib.FrozenHead2
import Derived.Lib.OthersKept
set_option linter.unusedVariables false
set_option linter.unusedSimpArgs false
set_option linter.unnecessarySimpa false
set_option linter.deprecated false
namespace Go.Proofs.Ytcmhlfnmjpmjhaa
open Go.RowKit

theorem infoByte : (Try.prog.info? 5).map (fun i => (i.zero, i.size, i.bytes)) = some (some (.int .u8 0), 1, 1) := by kernel_rfl
theorem sizeB : (Try.prog.info? 49).map (·.size) = some 2 := by kernel_rfl
/-- A builder may stand at the head of a variable of type T, whose other cells are ex. -/
def LT (T : TypeId) (ex : List Value) : Prop := T ≠ 5 ∧ liesAt Try.prog Try.prog.depth T ((2 + ex.length) / Try.prog.cellsOf T) 0 49 1 = true
theorem lt49 : LT 49 [] := ⟨by decide, by kernel_rfl⟩
theorem lt51 (a b c d : Value) : LT 51 [a, b, c, d] := ⟨by decide, by show liesAt Try.prog Try.prog.depth 51 ((2 + 4) / Try.prog.cellsOf 51) 0 49 1 = true; kernel_rfl⟩

/-- A builder at the head of block b: what it holds; where N says so, it has no row as long as it holds nothing. -/
structure WB (N : Prop) (T : TypeId) (ex : List Value) (B b : Nat) (out : List UInt8) (w : World) : Prop where
  ge : B ≤ b
  ex' : ∃ p v, (p = .pointer none ∨ p = .pointer (some ⟨b, 0, none⟩)) ∧ w.heap[b]? = some (.cells (p :: v :: ex).toArray T (0, 0)) ∧ w.ownsRowF B 5 1 v out.length (Lib.byteCells out) ∧ (N → out = [] → v = .slice none 0 0)

theorem set0 {w : World} {b : Nat} {T : TypeId} {p v u : Value} {ex : List Value} (h : w.heap[b]? = some (.cells (p :: v :: ex).toArray T (0, 0))) : (w.setCell ⟨b, 0, none⟩ u).heap[b]? = some (.cells (u :: v :: ex).toArray T (0, 0)) := by
  simp only [World.setCell, Array.getElem?_modify, h]
  simp
theorem set1 {w : World} {b : Nat} {T : TypeId} {p v u : Value} {ex : List Value} (h : w.heap[b]? = some (.cells (p :: v :: ex).toArray T (0, 0))) : (w.setCell ⟨b, 1, none⟩ u).heap[b]? = some (.cells (p :: u :: ex).toArray T (0, 0)) := by
  simp only [World.setCell, Array.getElem?_modify, h]
  simp

set_option maxHeartbeats 1000000 in
set_option maxRecDepth 100000 in
theorem check_b {T : TypeId} {ex : List Value} (hT : LT T ex) (b : Nat) (p v : Value) (w : World) (hp : p = .pointer none ∨ p = .pointer (some ⟨b, 0, none⟩)) (h : w.heap[b]? = some (.cells (p :: v :: ex).toArray T (0, 0))) :
    Calls Try.prog 34 #[.pointer (some ⟨b, 0, none⟩)] w fun e w' => e = .returned (.tuple #[]) ∧ w'.heap[b]? = some (.cells (.pointer (some ⟨b, 0, none⟩) :: v :: ex).toArray T (0, 0)) ∧ (w' = w ∨ w' = w.setCell ⟨b, 0, none⟩ (.pointer (some ⟨b, 0, none⟩))) := by
  obtain ⟨j, hj, hjs⟩ := Option.map_eq_some_iff.1 sizeB
  have hq := fun w => Lib.run_neq_ptr_same (P := Try.prog) w ⟨b, 0, none⟩ Try.underlying47 hj
  have h0 : w.cell? ⟨b, 0, none⟩ = some p := by rw [Lib.cell_of_heap h]; rfl
  have hf : w.frozen? ⟨b, 0, none⟩ = false := Lib.frozen_of_heap h 0
  have hsh : w.shape? b = some (T, 2 + ex.length) := by simp [World.shape?, h]; omega
  have hlies := hT.2
  have hset := set0 h (u := .pointer (some ⟨b, 0, none⟩))
  rcases hp with rfl | rfl
  · go_enter Try.func34, Try.ntmps34
    go_wp2
    rw [Lib.run_to_unsafe w ⟨b, 0, none⟩ Try.underlying47 Try.underlying83 hj (by rw [hjs]; decide) hsh (by show 0 < 2 + ex.length; omega)]
    simp only [Result.andThen]
    rw [Oper.upon_value]
    go_wp2
    rw [run_callFunc_extern Try.func37 (by kernel_rfl) (by kernel_rfl) (by kernel_rfl) (e := Extern.AbiNoEscape.same) (by kernel_rfl)]
    rw [Lib.run_noEscape]
    simp only [Result.andThen]
    rw [Oper.upon_value]
    go_wp2
    rw [Lib.run_from_unsafe w ⟨b, 0, none⟩ Try.underlying83 Try.underlying47 hj hsh hlies]
    simp only [Result.andThen]
    rw [Oper.upon_value]
    go_wp2
    go_end0
    exact ⟨rfl, hset, .inr rfl⟩
  · go_enter Try.func34, Try.ntmps34
    go_wp2
    go_end0
    exact ⟨rfl, h, .inl rfl⟩

theorem bytes_nil {s : ByteArray} (h : s.data.toList = []) : s = ByteArray.empty := by
  obtain ⟨d⟩ := s
  obtain ⟨l⟩ := d
  have : l = [] := h
  subst this
  rfl
/-- A write into the builder: what has been checked, has grown, and has its row put in. -/
theorem WB.put {v0 : Value} {N : Prop} {T : TypeId} {ex : List Value} (hT : LT T ex) {B b : Nat} {out o2 : List UInt8} {w w1 wa w2 : World} {v v' : Value} (hB : B ≤ b) (hBw : B ≤ w.heap.size)
    (h0 : w.heap[b]? = some (.cells (v0 :: v :: ex).toArray T (0, 0))) (h1 : w1.heap[b]? = some (.cells (.pointer (some ⟨b, 0, none⟩) :: v :: ex).toArray T (0, 0))) (hw : w1 = w ∨ w1 = w.setCell ⟨b, 0, none⟩ (.pointer (some ⟨b, 0, none⟩)))
    (hown : w1.ownsRowF B 5 1 v out.length (Lib.byteCells out)) (ha : wa = w1 ∨ ∃ o, wa = w1.alloc o) (hg : wa.grownBy w2 v.ownBlock) (ho : w2.ownsRowF B 5 1 v' o2.length (Lib.byteCells o2)) (hn : N → o2 = [] → v' = .slice none 0 0) :
    w2.heap[b]? = some (.cells (.pointer (some ⟨b, 0, none⟩) :: v :: ex).toArray T (0, 0)) ∧ WB N T ex B b o2 (w2.setCell ⟨b, 1, none⟩ v') ∧ Below B w (w2.setCell ⟨b, 1, none⟩ v') ∧ Lib.OthersKept 5 (some b) w (w2.setCell ⟨b, 1, none⟩ v') := by
  have hne := Lib.ownBlock_neF hown h1 hT.1
  have hlt : b < w1.heap.size := (Array.getElem?_eq_some_iff.1 h1).1
  have hb1 : Below B w w1 := by
    rcases hw with rfl | rfl
    · exact Below.refl _ _
    · exact (Below.refl _ _).setCell (p := ⟨b, 0, none⟩) hB _
  have hk1 : Lib.OthersKept 5 (some b) w w1 := by
    rcases hw with rfl | rfl
    · exact Lib.OthersKept.refl _ _ _
    · exact (Lib.OthersKept.refl _ _ _).setCell ⟨b, 0, none⟩ rfl _
  have hs1 : B ≤ w1.heap.size := Nat.le_trans hBw hb1.size
  have hba : Below B w wa := by
    rcases ha with rfl | ⟨o, rfl⟩
    · exact hb1
    · exact hb1.alloc hs1 _
  have hka : Lib.OthersKept 5 (some b) w wa := by
    rcases ha with rfl | ⟨o, rfl⟩
    · exact hk1
    · exact hk1.alloc _
  have ha1 : wa.heap[b]? = w1.heap[b]? := by
    rcases ha with rfl | ⟨o, rfl⟩
    · rfl
    · exact Lib.alloc_old w1 _ b hlt
  have hsa : w1.heap.size ≤ wa.heap.size := by
    rcases ha with rfl | ⟨o, rfl⟩
    · exact Nat.le_refl _
    · simp
  have h2 : w2.heap[b]? = some (.cells (.pointer (some ⟨b, 0, none⟩) :: v :: ex).toArray T (0, 0)) := by
    rw [hg.block b (by omega) (fun e => hne e.symm), ha1]
    exact h1
  have hkind : ∀ g, v.ownBlock = some g → ∃ c fz, wa.heap[g]? = some (.cells c 5 fz) := fun g e => by
    obtain ⟨c, fz, hc⟩ := Lib.ownsRowF_kind hown g e
    have hl : g < w1.heap.size := (Array.getElem?_eq_some_iff.1 hc).1
    rcases ha with rfl | ⟨o, rfl⟩
    · exact ⟨c, fz, hc⟩
    · exact ⟨c, fz, (Lib.alloc_old w1 _ g hl).trans hc⟩
  refine ⟨h2, ⟨hB, _, v', .inr rfl, set1 h2, ?_, hn⟩, ?_, ?_⟩
  · exact ho.kept (row := some b) ⟨rfl, rfl, rfl, by simp [World.setCell], fun k _ hk => Below.heap_setCell _ _ _ _ (fun e => hk (by simp [e]))⟩ (Or.inr (Lib.ownBlock_neF ho h2 hT.1))
  · exact (hba.grown hg (by omega) (fun k hk => (hown.lt k hk).1)).setCell (p := ⟨b, 1, none⟩) hB _
  · exact (hka.grown hg hkind).setCell ⟨b, 1, none⟩ rfl _

set_option maxHeartbeats 2000000 in
set_option maxRecDepth 100000 in
theorem WriteString_b {N : Prop} {T : TypeId} {ex : List Value} (hT : LT T ex) (B b : Nat) (out : List UInt8) (s : ByteArray) (w : World) (h : WB N T ex B b out w) (hlen : out.length + s.size ≤ 140737488355000) (hBw : B ≤ w.heap.size) :
    Calls Try.prog 27 #[.pointer (some ⟨b, 0, none⟩), .string s] w fun e w' => e = .returned (.tuple #[.int .i64 s.size, .nilIface]) ∧ WB N T ex B b (out ++ s.data.toList) w' ∧ Below B w w' ∧ Lib.OthersKept 5 (some b) w w' := by
  obtain ⟨i0, hi, hz0, hz1, hz2⟩ := info_parts infoByte
  obtain ⟨hB, p, v, hp, hbk, hown, hN⟩ := h
  go_enter Try.func27, Try.ntmps27
  go_wp2_with (go_at_call 34; refine (check_b hT b p v _ hp hbk).mono ?_)
  rintro e w1 ⟨rfl, h1, hw⟩
  have c0 : w1.cell? ⟨b, 0, none⟩ = some (.pointer (some ⟨b, 0, none⟩)) := by rw [Lib.cell_of_heap h1]; rfl
  have c1 : w1.cell? ⟨b, 1, none⟩ = some v := by rw [Lib.cell_of_heap h1]; rfl
  have hown1 : w1.ownsRowF B 5 1 v out.length (Lib.byteCells out) := by
    rcases hw with rfl | rfl
    · exact hown
    · exact hown.kept (row := some b) ⟨rfl, rfl, rfl, by simp [World.setCell], fun k _ hk => Below.heap_setCell _ _ _ _ (fun e => hk (by simp [e]))⟩ (Or.inr (Lib.ownBlock_neF hown hbk hT.1))
  have hs1 : B ≤ w1.heap.size := by
    rcases hw with rfl | rfl
    · exact hBw
    · rw [size_setCell]; exact hBw
  go_wp2_with (at_builtin; refine Lib.wpList_append_own_stringF _ rfl _ _ 36 9 rfl B 5 i0 Try.underlying36 Try.underlying9 hi hz0 hz1 hz2 _ _ _ rfl hown1 s rfl ?c3 ?c4 hs1 ?_)
  case c3 => unfold maxLen; omega
  case c4 => omega
  intro v' w2 hown' hgrow hnil
  obtain ⟨h2, hwb, hbl, hok⟩ := WB.put (N := N) (o2 := out ++ s.data.toList) hT hB hBw hbk h1 hw hown1 (.inl rfl) hgrow (by rw [List.length_append, Lib.byteCells_append, ← Lib.size_eq, ← Lib.strCells_eq]; exact hown') (fun hn he => hnil.2 ⟨hN hn (List.append_eq_nil_iff.1 he).1, bytes_nil (List.append_eq_nil_iff.1 he).2⟩)
  have d0 : w2.cell? ⟨b, 0, none⟩ = some (.pointer (some ⟨b, 0, none⟩)) := by rw [Lib.cell_of_heap h2]; rfl
  have d1 : w2.cell? ⟨b, 1, none⟩ = some v := by rw [Lib.cell_of_heap h2]; rfl
  have f1 : w2.frozen? ⟨b, 1, none⟩ = false := Lib.frozen_of_heap h2 1
  obtain ⟨ao, n', cap, rfl⟩ : ∃ ao n' cap, v' = .slice ao n' cap := by
    rcases hown'.2 with ⟨hv, _⟩ | ⟨g, cap, cur, fz, hv, _⟩
    · exact ⟨_, _, _, hv⟩
    · exact ⟨_, _, _, hv⟩
  clear hown' hgrow hnil hown hbk h1 h2
  go_wp2
  go_ret2
  exact ⟨rfl, hwb, hbl, hok⟩

set_option maxHeartbeats 2000000 in
set_option maxRecDepth 100000 in
theorem WriteByte_b {N : Prop} {T : TypeId} {ex : List Value} (hT : LT T ex) (B b : Nat) (out : List UInt8) (c : Int) (u : UInt8) (hc : c = (u.toNat : Int)) (w : World) (h : WB N T ex B b out w) (hlen : out.length + 1 ≤ 140737488355000) (hBw : B ≤ w.heap.size) :
    Calls Try.prog 64 #[.pointer (some ⟨b, 0, none⟩), .int .u8 c] w fun e w' => e = .returned .nilIface ∧ WB N T ex B b (out ++ [u]) w' ∧ Below B w w' ∧ Lib.OthersKept 5 (some b) w w' := by
  subst hc
  obtain ⟨i0, hi, hz0, hz1, hz2⟩ := info_parts infoByte
  obtain ⟨hB, p, v, hp, hbk, hown, hN⟩ := h
  go_enter Try.func64, Try.ntmps64
  go_wp2_with (go_at_call 34; refine (check_b hT b p v _ hp hbk).mono ?_)
  rintro e w1 ⟨rfl, h1, hw⟩
  have c0 : w1.cell? ⟨b, 0, none⟩ = some (.pointer (some ⟨b, 0, none⟩)) := by rw [Lib.cell_of_heap h1]; rfl
  have c1 : w1.cell? ⟨b, 1, none⟩ = some v := by rw [Lib.cell_of_heap h1]; rfl
  have hown1 : w1.ownsRowF B 5 1 v out.length (Lib.byteCells out) := by
    rcases hw with rfl | rfl
    · exact hown
    · exact hown.kept (row := some b) ⟨rfl, rfl, rfl, by simp [World.setCell], fun k _ hk => Below.heap_setCell _ _ _ _ (fun e => hk (by simp [e]))⟩ (Or.inr (Lib.ownBlock_neF hown hbk hT.1))
  have hs1 : B ≤ w1.heap.size := by
    rcases hw with rfl | rfl
    · exact hBw
    · rw [size_setCell]; exact hBw
  have hown2 : (w1.alloc (.cells #[.int .u8 (u.toNat : Int)] 5)).ownsRowF B 5 1 v out.length (Lib.byteCells out) := hown1.alloc _
  have hs2 : B ≤ (w1.alloc (.cells #[.int .u8 (u.toNat : Int)] 5)).heap.size := by simp; omega
  go_wp2_with (at_builtin; (refine wpList_append_ownF _ rfl _ _ 36 rfl B 5 i0 (.int .u8 0) 1 1 Try.underlying36 hi hz0 hz1 hz2 rfl (by decide) _ _ _ rfl hown2 ⟨w1.heap.size, 0, none⟩ 1 1 [.int .u8 (u.toNat : Int)] rfl rfl ?c1 ?c2 ?c3 ?c4 hs2 ?_))
  case c1 => exact cell_one_new _ _ _
  case c2 => intro u hu; simp at hu; subst hu; rfl
  case c3 => unfold maxLen; omega
  case c4 => omega
  intro v' w2 hown' hgrow hnil
  obtain ⟨h2, hwb, hbl, hok⟩ := WB.put (N := N) (o2 := out ++ [u]) hT hB hBw hbk h1 hw hown1 (.inr ⟨_, rfl⟩) hgrow (by rw [List.length_append, Lib.byteCells_append]; exact hown') (fun hn he => by simp at he)
  have d0 : w2.cell? ⟨b, 0, none⟩ = some (.pointer (some ⟨b, 0, none⟩)) := by rw [Lib.cell_of_heap h2]; rfl
  have d1 : w2.cell? ⟨b, 1, none⟩ = some v := by rw [Lib.cell_of_heap h2]; rfl
  have f1 : w2.frozen? ⟨b, 1, none⟩ = false := Lib.frozen_of_heap h2 1
  obtain ⟨ao, n', cap, rfl⟩ : ∃ ao n' cap, v' = .slice ao n' cap := by
    rcases hown'.2 with ⟨hv, _⟩ | ⟨g, cap, cur, fz, hv, _⟩
    · exact ⟨_, _, _, hv⟩
    · exact ⟨_, _, _, hv⟩
  clear hown' hgrow hnil hown hbk h1 h2
  go_wp2
  go_ret
  exact ⟨rfl, hwb, hbl, hok⟩

set_option maxHeartbeats 1000000 in
theorem Len_b {N : Prop} {T : TypeId} {ex : List Value} (B b : Nat) (out : List UInt8) (w : World) (h : WB N T ex B b out w) :
    Calls Try.prog 59 #[.pointer (some ⟨b, 0, none⟩)] w fun e w' => e = .returned (.int .i64 out.length) ∧ w' = w := by
  obtain ⟨hB, p, v, hp, hbk, hown, hN⟩ := h
  have c1 : w.cell? ⟨b, 1, none⟩ = some v := by rw [Lib.cell_of_heap hbk]; rfl
  obtain ⟨ao, cap, rfl⟩ : ∃ ao cap, v = .slice ao out.length cap := by
    rcases hown.2 with ⟨hv, h0⟩ | ⟨g, cap, cur, fz, hv, _⟩
    · exact ⟨none, 0, by rw [h0]; exact hv⟩
    · exact ⟨_, _, hv⟩
  clear hown hbk hp
  go_enter Try.func59, Try.ntmps59
  go_wp2
  go_ret
  exact ⟨rfl, rfl⟩
end Go.Proofs.Ytcmhlfnmjpmjhaa
