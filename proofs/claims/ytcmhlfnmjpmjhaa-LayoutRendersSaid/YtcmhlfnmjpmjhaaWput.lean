/- The walk of the writer's put. -/
import Derived.Test.YtcmhlfnmjpmjhaaWb
set_option linter.unusedVariables false
set_option linter.unusedSimpArgs false
set_option linter.unnecessarySimpa false
set_option linter.deprecated false
namespace Go.Proofs.Ytcmhlfnmjpmjhaa
open Go.RowKit

/-- What a writer holds. -/
structure Wst where
  out : List UInt8
  col : Nat
  wid : Int
  brk : Nat
  long : Bool
/-- A text is put. -/
def putM (s : List UInt8) (st : Wst) : Wst := if st.out.length + s.length ≤ 65536 then { st with out := st.out ++ s, col := st.col + s.length } else { st with col := st.col + s.length, long := true }
/-- A break is put. -/
def wrapM (ind : Nat) (st : Wst) : Wst := if st.out.length + 1 + ind ≤ 65536 then { st with out := st.out ++ 10 :: List.replicate ind 32, col := ind } else { st with long := true }

/-- A writer at block b. -/
abbrev W51 (B b : Nat) (st : Wst) (w : World) : Prop := WB True 51 [.int .i64 (st.col : Int), .int .i64 st.wid, .int .i64 (st.brk : Int), .bool st.long] B b st.out w

theorem WB.setex {N : Prop} {T : TypeId} (h5 : T ≠ 5) {ex : List Value} {B b : Nat} {out : List UInt8} {w : World} (h : WB N T ex B b out w) (i : Nat) (u : Value) : WB N T (ex.set i u) B b out (w.setCell ⟨b, i + 2, none⟩ u) := by
  obtain ⟨hB, p, v, hp, hbk, hown, hN⟩ := h
  refine ⟨hB, p, v, hp, ?_, ?_, hN⟩
  · simp only [World.setCell, Array.getElem?_modify, hbk]
    simp
  · exact hown.kept (row := some b) ⟨rfl, rfl, rfl, by simp [World.setCell], fun k _ hk => Below.heap_setCell _ _ _ _ (fun e => hk (by simp [e]))⟩ (Or.inr (Lib.ownBlock_neF hown hbk h5))
theorem WB.cell {N : Prop} {T : TypeId} {ex : List Value} {B b : Nat} {out : List UInt8} {w : World} (h : WB N T ex B b out w) (i : Nat) : w.cell? ⟨b, i + 2, none⟩ = ex[i]? := by
  obtain ⟨hB, p, v, hp, hbk, hown, hN⟩ := h
  rw [Lib.cell_of_heap hbk]
  simp
theorem WB.free {N : Prop} {T : TypeId} {ex : List Value} {B b : Nat} {out : List UInt8} {w : World} (h : WB N T ex B b out w) (i : Nat) : w.frozen? ⟨b, i, none⟩ = false := by
  obtain ⟨hB, p, v, hp, hbk, hown, hN⟩ := h
  exact Lib.frozen_of_heap hbk i
theorem WB.lt {N : Prop} {T : TypeId} {ex : List Value} {B b : Nat} {out : List UInt8} {w : World} (h : WB N T ex B b out w) : b < w.heap.size := by
  obtain ⟨hB, p, v, hp, hbk, hown, hN⟩ := h
  exact (Array.getElem?_eq_some_iff.1 hbk).1

/-- What a writing answers. -/
def PutP (B b : Nat) (st : Wst) (w : World) (e : Ending) (w' : World) : Prop := e = .returned (.tuple #[]) ∧ Hid (W51 B b st w' ∧ Below B w w' ∧ Lib.OthersKept 5 (some b) w w')

set_option maxHeartbeats 2000000 in
set_option maxRecDepth 100000 in
theorem put_any (B b : Nat) (s : ByteArray) (st : Wst) (w : World) (h : W51 B b st w) (ho : st.out.length ≤ 65536) (hc : st.col ≤ 65536) (hs : s.size ≤ 1000000) (hBw : B ≤ w.heap.size) :
    Calls Try.prog 54 #[.pointer (some ⟨b, 0, none⟩), .string s] w (PutP B b (putM s.data.toList st) w) := by
  have e2 : w.cell? ⟨b, 2, none⟩ = some (.int .i64 (st.col : Int)) := h.cell 0
  have f2 := h.free 2
  have el := h.lt
  have h1 : WB True 51 [.int .i64 ((st.col : Int) + (s.size : Int)), .int .i64 st.wid, .int .i64 (st.brk : Int), .bool st.long] B b st.out (w.setCell ⟨b, 2, none⟩ (.int .i64 ((st.col : Int) + (s.size : Int)))) := h.setex (by decide) 0 _
  have hC := hide (show (st.col : Int) + (s.size : Int) = ((st.col + s.size : Nat) : Int) by omega)
  have H1 := hide h1
  have hb1 := hide ((Below.refl B w).setCell (p := ⟨b, 2, none⟩) h.ge (.int .i64 ((st.col : Int) + (s.size : Int))))
  have hk1 := hide ((Lib.OthersKept.refl 5 (some b) w).setCell ⟨b, 2, none⟩ rfl (.int .i64 ((st.col : Int) + (s.size : Int))))
  have HL := hide (Len_b B b st.out _ h1)
  have hbs : B ≤ (w.setCell ⟨b, 2, none⟩ (.int .i64 ((st.col : Int) + (s.size : Int)))).heap.size := by rw [size_setCell]; exact hBw
  have HG := hide h1.ge
  clear h h1
  by_cases hl : st.out.length + s.size ≤ 65536
  · have HM := hide (show putM s.data.toList st = { st with out := st.out ++ s.data.toList, col := st.col + s.size } from by
      unfold putM; rw [if_pos (by rw [← Lib.size_eq]; exact hl), ← Lib.size_eq])
    have hlt : ¬ ((65536 : Int) < (st.out.length : Int) + (s.size : Int)) := by omega
    have HW := hide (WriteString_b (lt51 _ _ _ _) B b st.out s _ H1.out (by omega) hbs)
    go_enter Try.func54, Try.ntmps54
    go_wp2_with (first | (go_at_call 59; refine HL.out.mono ?_; rintro e w' ⟨rfl, rfl⟩) | (go_at_call 27; refine HW.out.mono ?_; rintro e w2 ⟨rfl, h2, h3, h4⟩))
    go_end0
    refine ⟨rfl, ?_, hb1.out.trans h3, hk1.out.trans h4⟩
    rw [HM.out]
    rw [hC.out] at h2
    exact h2
  · have HM := hide (show putM s.data.toList st = { st with col := st.col + s.size, long := true } from by
      unfold putM; rw [if_neg (by rw [← Lib.size_eq]; exact hl), ← Lib.size_eq])
    have hlt : (65536 : Int) < (st.out.length : Int) + (s.size : Int) := by omega
    have HX := hide (show WB True 51 [.int .i64 ((st.col : Int) + (s.size : Int)), .int .i64 st.wid, .int .i64 (st.brk : Int), .bool true] B b st.out ((w.setCell ⟨b, 2, none⟩ (.int .i64 ((st.col : Int) + (s.size : Int)))).setCell ⟨b, 5, none⟩ (.bool true)) from H1.out.setex (by decide) 3 _)
    have f5 := H1.out.free 5
    have e5 := H1.out.cell 3
    go_enter Try.func54, Try.ntmps54
    go_wp2_with (first | (go_at_call 59; refine HL.out.mono ?_; rintro e w' ⟨rfl, rfl⟩))
    refine bodyPost_ret (results_none rfl _ _ _) rfl ?_
    refine ⟨rfl, ?_, hb1.out.setCell (p := ⟨b, 5, none⟩) HG.out _, hk1.out.setCell ⟨b, 5, none⟩ rfl _⟩
    rw [HM.out]
    have h2 := HX.out
    rw [hC.out] at h2 ⊢
    exact h2
end Go.Proofs.Ytcmhlfnmjpmjhaa
