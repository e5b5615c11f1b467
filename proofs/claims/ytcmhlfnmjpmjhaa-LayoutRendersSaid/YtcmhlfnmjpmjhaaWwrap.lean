/- The walk of the writer's wrap. -/
import Derived.Test.YtcmhlfnmjpmjhaaRep
import Derived.Deep.RegionHeld3
set_option linter.unusedVariables false
set_option linter.unusedSimpArgs false
set_option linter.unnecessarySimpa false
set_option linter.deprecated false
namespace Go.Proofs.Ytcmhlfnmjpmjhaa
open Go.RowKit

theorem WB.drew {N : Prop} {T : TypeId} {ex : List Value} {B b : Nat} {out : List UInt8} {w : World} (h : WB N T ex B b out w) : WB N T ex B b out w.drew := ⟨h.ge, h.ex'⟩
theorem WB.others {N : Prop} {T : TypeId} (hT : T ≠ 5) {ex : List Value} {B b : Nat} {out : List UInt8} {w w' : World} (h : WB N T ex B b out w) (hb : Below w.heap.size w w') : WB N T ex B b out w' := by
  obtain ⟨hB, p, v, hp, hbk, hown, hN⟩ := h
  refine ⟨hB, p, v, hp, (hb.block b (Array.getElem?_eq_some_iff.1 hbk).1).trans hbk, ⟨hown.1, ?_⟩, hN⟩
  rcases hown.2 with h0 | ⟨g, cap, cur, fz, e, hg, hh, hr⟩
  · exact .inl h0
  · exact .inr ⟨g, cap, cur, fz, e, hg, (hb.block g (Array.getElem?_eq_some_iff.1 hh).1).trans hh, hr⟩
theorem othersBelow {e : TypeId} {b : Option Nat} {w w' : World} (h : Below w.heap.size w w') : Lib.OthersKept e b w w' := fun k o hk _ _ => (h.block k (Array.getElem?_eq_some_iff.1 hk).1).trans hk

theorem wdrew {N : Prop} {T : TypeId} {ex : List Value} {B b : Nat} {out : List UInt8} {w w1 : World} (h : WB N T ex B b out w1 ∧ Below B w w1 ∧ Lib.OthersKept 5 (some b) w w1) : WB N T ex B b out w1.drew ∧ Below B w w1.drew ∧ Lib.OthersKept 5 (some b) w w1.drew :=
  ⟨h.1.drew, Below.drew h.2.1, h.2.2.drew⟩

set_option maxHeartbeats 4000000 in
set_option maxRecDepth 100000 in
theorem wrap_any (B b : Nat) (ind : Nat) (st : Wst) (w : World) (h : W51 B b st w) (ho : st.out.length ≤ 65536) (hi : ind ≤ 1000000) (hBw : B ≤ w.heap.size) :
    Calls Try.prog 63 #[.pointer (some ⟨b, 0, none⟩), .int .i64 (ind : Int)] w (PutP B b (wrapM ind st) w) := by
  have HL := hide (Len_b B b st.out _ h)
  have el := h.lt
  have hge := h.ge
  by_cases hl : st.out.length + 1 + ind ≤ 65536
  · have HM := hide (show wrapM ind st = { st with out := st.out ++ 10 :: List.replicate ind 32, col := ind } from by unfold wrapM; rw [if_pos hl])
    have hlt : ¬ ((65536 : Int) < (st.out.length : Int) + 1 + (ind : Int)) := by omega
    have HW := hide (WriteByte_b (lt51 _ _ _ _) B b st.out 10 10 rfl w h (by omega) hBw)
    have HR := hide (fun W => repeat_any ind (by omega) W)
    have HS := hide (show ∀ W1 W2, WB True 51 [.int .i64 (st.col : Int), .int .i64 st.wid, .int .i64 (st.brk : Int), .bool st.long] B b (st.out ++ [10]) W1 ∧ Below B w W1 ∧ Lib.OthersKept 5 (some b) w W1 → Below W1.heap.size W1 W2 →
        Calls Try.prog 27 #[.pointer (some ⟨b, 0, none⟩), .string (blanks ind)] W2 fun e W3 => e = .returned (.tuple #[.int .i64 (blanks ind).size, .nilIface]) ∧ Hid (WB True 51 [.int .i64 (st.col : Int), .int .i64 st.wid, .int .i64 (st.brk : Int), .bool st.long] B b (st.out ++ 10 :: List.replicate ind 32) W3 ∧ Below B w W3 ∧ Lib.OthersKept 5 (some b) w W3) from fun W1 W2 h1 h2 => by
      have hs1 : B ≤ W1.heap.size := Nat.le_trans hBw h1.2.1.size
      refine (WriteString_b (lt51 _ _ _ _) B b (st.out ++ [10]) (blanks ind) W2 (WB.others (by decide) h1.1 h2) (by rw [List.length_append, blanks_size]; simp; omega) (Nat.le_trans hs1 h2.size)).mono ?_
      rintro e W3 ⟨rfl, h3, b3, k3⟩
      refine ⟨rfl, ?_, h1.2.1.trans ((h2.mono hs1).trans b3), (h1.2.2.trans (othersBelow h2)).trans k3⟩
      rw [List.append_assoc] at h3
      exact h3)
    clear h
    go_enter Try.func63, Try.ntmps63
    go_upto_region 3 with (first | (go_at_call 59; refine HL.out.mono ?_; rintro e w' ⟨rfl, hw⟩; rw [hw]) | (go_at_call 64; refine HW.out.mono ?_; rintro e W1 ⟨rfl, h1⟩; have H1 := hide h1; clear h1))
    go_region_with (first | (go_at_call 65; refine (HR.out _).mono ?_; rintro e W2 ⟨rfl, h2⟩; have H2 := hide h2; clear h2) | (go_at_call 27; refine (HS.out _ _ (wdrew H1.out) H2.out).mono ?_; rintro e W3 ⟨rfl, H3⟩; have f2 := H3.out.1.free 2; have e2 := H3.out.1.cell 0; have el3 := H3.out.1.lt))
    all_goals go_wp2
    all_goals go_end0
    all_goals refine ⟨rfl, ?_, H3.out.2.1.setCell (p := ⟨b, 2, none⟩) hge _, H3.out.2.2.setCell ⟨b, 2, none⟩ rfl _⟩
    all_goals rw [HM.out]
    all_goals exact H3.out.1.setex (by decide) 0 (.int .i64 (ind : Int))
  · have HM := hide (show wrapM ind st = { st with long := true } from by unfold wrapM; rw [if_neg hl])
    have hlt : (65536 : Int) < (st.out.length : Int) + 1 + (ind : Int) := by omega
    have HX := hide (show WB True 51 [.int .i64 (st.col : Int), .int .i64 st.wid, .int .i64 (st.brk : Int), .bool true] B b st.out (w.setCell ⟨b, 5, none⟩ (.bool true)) from h.setex (by decide) 3 _)
    have f5 := h.free 5
    have e5 := h.cell 3
    clear h
    go_enter Try.func63, Try.ntmps63
    go_wp2_with (first | (go_at_call 59; refine HL.out.mono ?_; rintro e w' ⟨rfl, hw⟩; rw [hw]))
    refine bodyPost_ret (results_none rfl _ _ _) rfl ?_
    refine ⟨rfl, ?_, (Below.refl B w).setCell (p := ⟨b, 5, none⟩) hge _, (Lib.OthersKept.refl 5 (some b) w).setCell ⟨b, 5, none⟩ rfl _⟩
    rw [HM.out]
    exact HX.out
end Go.Proofs.Ytcmhlfnmjpmjhaa
