/- The reference's writer: put. -/
import Derived.Test.YtcmhlfnmjpmjhaaFlat
set_option linter.unusedVariables false
set_option linter.unusedSimpArgs false
set_option linter.unnecessarySimpa false
set_option linter.deprecated false
namespace Go.Proofs.Ytcmhlfnmjpmjhaa
open Go.RowKit

/-- The cells of the reference's writer. -/
abbrev wrC (vl : Value) (n : Nat) (v : Value) (st : Wst) : Array Value := #[vl, .int .i64 (n : Int), v, .int .i64 (st.col : Int), .int .i64 st.wid, .int .i64 (st.brk : Int), .bool st.long]
/-- A writer of the reference's at block b. -/
structure WR (B b : Nat) (vl : Value) (n : Nat) (st : Wst) (w : World) : Prop where
  ge : B ≤ b
  ex : ∃ v, Blk w b (wrC vl n v st) 55 ∧ w.ownsRow B 5 1 v st.out.length (Lib.byteCells st.out)
theorem Blk.set {w : World} {k : Nat} {c : Array Value} {t : TypeId} (h : Blk w k c t) (i : Nat) (x : Value) : Blk (w.setCell ⟨k, i, none⟩ x) k (c.setIfInBounds i x) t := by
  unfold Blk at h ⊢
  simp only [World.setCell, Array.getElem?_modify, h]
  simp
theorem own_set {w : World} {B b i n size : Nat} {e t : TypeId} {v u : Value} {xs : List Value} {c : Array Value} (h : w.ownsRow B e size v n xs) (hb : Blk w b c t) (ht : t ≠ e) : (w.setCell ⟨b, i, none⟩ u).ownsRow B e size v n xs := by
  refine h.kept (row := some b) ⟨rfl, rfl, rfl, by simp [World.setCell], fun k _ hk => Below.heap_setCell _ _ _ _ (fun e => hk (by simp [e]))⟩ (Or.inr fun e2 => ?_)
  rcases h.2 with ⟨rfl, _⟩ | ⟨g, cap, cur, rfl, hB, hh, _⟩
  · cases e2
  · simp only [Value.ownBlock, Option.some.injEq] at e2
    subst e2
    unfold Blk at hb
    rw [hb] at hh
    injection hh with hh
    injection hh with _ h3 _
    exact ht h3
theorem WR.below {B b n : Nat} {vl : Value} {st : Wst} {w w' : World} (h : WR B b vl n st w) (hb : Below w.heap.size w w') : WR B b vl n st w' := by
  obtain ⟨hg, v, h1, h2⟩ := h
  exact ⟨hg, v, h1.below hb, own_below h2 hb⟩
theorem WR.cells {B b n : Nat} {vl : Value} {st : Wst} {w : World} (h : WR B b vl n st w) : w.cell? ⟨b, 0, none⟩ = some vl ∧ w.cell? ⟨b, 1, none⟩ = some (.int .i64 (n : Int)) ∧ w.cell? ⟨b, 3, none⟩ = some (.int .i64 (st.col : Int)) ∧ w.cell? ⟨b, 4, none⟩ = some (.int .i64 st.wid) ∧ w.cell? ⟨b, 5, none⟩ = some (.int .i64 (st.brk : Int)) ∧ w.cell? ⟨b, 6, none⟩ = some (.bool st.long) ∧ b < w.heap.size ∧ ∀ i, w.frozen? ⟨b, i, none⟩ = false := by
  obtain ⟨hg, v, h1, h2⟩ := h
  exact ⟨h1.cell 0, h1.cell 1, h1.cell 3, h1.cell 4, h1.cell 5, h1.cell 6, h1.lt, h1.free⟩
theorem WR.setN {B b n : Nat} {vl : Value} {st : Wst} {w : World} (h : WR B b vl n st w) (m : Nat) : WR B b vl m st (w.setCell ⟨b, 1, none⟩ (.int .i64 (m : Int))) := by
  obtain ⟨hg, v, h1, h2⟩ := h
  exact ⟨hg, v, h1.set 1 _, own_set h2 h1 (by decide)⟩
theorem WR.setCol {B b n : Nat} {vl : Value} {st : Wst} {w : World} (h : WR B b vl n st w) (m : Nat) : WR B b vl n { st with col := m } (w.setCell ⟨b, 3, none⟩ (.int .i64 (m : Int))) := by
  obtain ⟨hg, v, h1, h2⟩ := h
  exact ⟨hg, v, h1.set 3 _, own_set h2 h1 (by decide)⟩
theorem WR.setBrk {B b n : Nat} {vl : Value} {st : Wst} {w : World} (h : WR B b vl n st w) (m : Nat) : WR B b vl n { st with brk := m } (w.setCell ⟨b, 5, none⟩ (.int .i64 (m : Int))) := by
  obtain ⟨hg, v, h1, h2⟩ := h
  exact ⟨hg, v, h1.set 5 _, own_set h2 h1 (by decide)⟩
theorem WR.setLong {B b n : Nat} {vl : Value} {st : Wst} {w : World} (h : WR B b vl n st w) : WR B b vl n { st with long := true } (w.setCell ⟨b, 6, none⟩ (.bool true)) := by
  obtain ⟨hg, v, h1, h2⟩ := h
  exact ⟨hg, v, h1.set 6 _, own_set h2 h1 (by decide)⟩
/-- What the reference's put does. -/
def putR (s : List UInt8) (st : Wst) : Wst := if st.out.length + s.length ≤ 65536 then { st with out := st.out ++ s, col := st.col + s.length } else { st with long := true }
/-- What a method that writes leaves. -/
def WRP (B b : Nat) (vl : Value) (n : Nat) (st : Wst) (w : World) (e : Ending) (w' : World) : Prop := e = .returned (.tuple #[]) ∧ Hid (WR B b vl n st w' ∧ Below B w w' ∧ Lib.OthersKept 5 (some b) w w')

/-- Bytes are put behind the writer's own. -/
theorem WR.grow {B b n : Nat} {vl v v' : Value} {st : Wst} {w w2 : World} {s : List UInt8} (hB : B ≤ b) (hBw : B ≤ w.heap.size) (h1 : Blk w b (wrC vl n v st) 55) (h2 : w.ownsRow B 5 1 v st.out.length (Lib.byteCells st.out))
    (ho : w2.ownsRow B 5 1 v' (st.out.length + s.length) (Lib.byteCells st.out ++ Lib.byteCells s)) (hg : w.grownBy w2 v.ownBlock) :
    Blk w2 b (wrC vl n v st) 55 ∧ WR B b vl n { st with out := st.out ++ s } (w2.setCell ⟨b, 2, none⟩ v') ∧ Below B w (w2.setCell ⟨b, 2, none⟩ v') ∧ Lib.OthersKept 5 (some b) w (w2.setCell ⟨b, 2, none⟩ v') := by
  have hne : some b ≠ v.ownBlock := h1.own_ne h2 (by decide)
  have hb2 : Blk w2 b (wrC vl n v st) 55 := (hg.block b h1.lt hne).trans h1
  refine ⟨hb2, ⟨hB, v', hb2.set 2 _, ?_⟩, ?_, ?_⟩
  · rw [List.length_append, Lib.byteCells_append]
    exact own_set ho hb2 (by decide)
  · refine ((Below.refl B w).grown hg hBw fun k hk => ?_).setCell (p := ⟨b, 2, none⟩) hB _
    rcases h2.2 with ⟨rfl, _⟩ | ⟨g, cap, cur, rfl, hBg, _⟩
    · simp [Value.ownBlock] at hk
    · simp only [Value.ownBlock, Option.some.injEq] at hk
      omega
  · refine ((Lib.OthersKept.refl 5 (some b) w).grown hg fun g hg2 => ?_).setCell ⟨b, 2, none⟩ rfl _
    rcases h2.2 with ⟨rfl, _⟩ | ⟨g', cap, cur, rfl, hBg, hh, _⟩
    · simp [Value.ownBlock] at hg2
    · simp only [Value.ownBlock, Option.some.injEq] at hg2
      subst hg2
      exact ⟨cur, _, hh⟩

set_option maxHeartbeats 2000000 in
set_option maxRecDepth 100000 in
theorem putR_any (B b n : Nat) (vl : Value) (s : ByteArray) (st : Wst) (w : World) (h : WR B b vl n st w) (ho : st.out.length ≤ 65536) (hc : st.col ≤ 1000000) (hs : s.size ≤ 1000000) (hBw : B ≤ w.heap.size) :
    Calls Try.prog 35 #[.pointer (some ⟨b, 0, none⟩), .string s] w (WRP B b vl n (putR s.data.toList st) w) := by
  obtain ⟨i0, hi, hz0, hz1, hz2⟩ := info_parts info5
  by_cases hl : st.out.length + s.size ≤ 65536
  · have HM := hide (show putR s.data.toList st = { st with out := st.out ++ s.data.toList, col := st.col + s.size } from by
      unfold putR; rw [if_pos (by rw [size_len]; exact hl), size_len])
    obtain ⟨hB, v, h1, h2⟩ := h
    obtain ⟨ao, cap, rfl, _⟩ := own_shape h2
    have H1 := hide h1
    have H2 := hide h2
    have c2 : w.cell? ⟨b, 2, none⟩ = some (.slice ao st.out.length cap) := h1.cell 2
    have lb := h1.lt
    have hlt : ¬ ((65536 : Int) < (st.out.length : Int) + (s.size : Int)) := by omega
    clear h1 h2
    go_enter Try.func35, Try.ntmps35
    go_wp2_with (at_builtin; refine Lib.wpList_append_own_string _ rfl _ _ 36 9 rfl B 5 i0 Try.underlying36 Try.underlying9 hi hz0 hz1 hz2 _ _ _ rfl H2.out s rfl ?c3 ?c4 hBw ?_)
    case c3 => unfold maxLen; omega
    case c4 => omega
    intro v' w2 hown' hgrow hnil
    obtain ⟨ao2, cap2, rfl, _⟩ := own_shape hown'
    obtain ⟨hb2, hwr, hbl, hok⟩ := WR.grow (s := s.data.toList) hB hBw H1.out H2.out (by rw [size_len, ← Lib.strCells_eq]; exact hown') hgrow
    have d2 : w2.cell? ⟨b, 2, none⟩ = some (.slice ao st.out.length cap) := hb2.cell 2
    have f2 := hb2.free 2
    have HWR := hide hwr
    have HBL := hide hbl
    have HOK := hide hok
    have HB2 := hide hb2
    have lb2 := hb2.lt
    have e3 : w2.cell? ⟨b, 3, none⟩ = some (.int .i64 (st.col : Int)) := hb2.cell 3
    have f3 := hb2.free 3
    clear hown' hgrow hnil hwr hbl hok hb2
    go_wp2_with fail
    have hfin := HWR.out.setCol (st.col + s.size)
    refine bodyPost_ret (results_none rfl _ _ _) rfl ?_
    refine ⟨rfl, ?_, HBL.out.setCell (p := ⟨b, 3, none⟩) hB _, HOK.out.setCell ⟨b, 3, none⟩ rfl _⟩
    rw [HM.out]
    rw [show ((st.col + s.size : Nat) : Int) = (st.col : Int) + (s.size : Int) by omega] at hfin
    exact hfin
  · have HM := hide (show putR s.data.toList st = { st with long := true } from by
      unfold putR; rw [if_neg (by rw [size_len]; exact hl)])
    obtain ⟨hB, v, h1, h2⟩ := id h
    obtain ⟨ao, cap, rfl, _⟩ := own_shape h2
    have c2 : w.cell? ⟨b, 2, none⟩ = some (.slice ao st.out.length cap) := h1.cell 2
    have lb := h1.lt
    have f6 := h1.free 6
    have e6 : w.cell? ⟨b, 6, none⟩ = some (.bool st.long) := h1.cell 6
    have hlt : (65536 : Int) < (st.out.length : Int) + (s.size : Int) := by omega
    have HX := hide h.setLong
    clear h1 h2 h
    go_enter Try.func35, Try.ntmps35
    go_wp2_with fail
    refine bodyPost_ret (results_none rfl _ _ _) rfl ?_
    refine ⟨rfl, ?_, (Below.refl B w).setCell (p := ⟨b, 6, none⟩) hB _, (Lib.OthersKept.refl 5 (some b) w).setCell ⟨b, 6, none⟩ rfl _⟩
    rw [HM.out]
    exact HX.out
end Go.Proofs.Ytcmhlfnmjpmjhaa
