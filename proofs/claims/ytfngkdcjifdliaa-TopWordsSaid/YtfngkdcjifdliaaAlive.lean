/- The walk of alive. -/
import Derived.Test.YtfngkdcjifdliaaEqT
set_option linter.unusedVariables false
set_option linter.unusedSimpArgs false
set_option linter.unnecessarySimpa false
set_option linter.deprecated false
namespace Go.Proofs.Ytfngkdcjifdliaa
open Go.RowKit

set_option maxHeartbeats 8000000 in
set_option maxRecDepth 100000 in
theorem alive_any (w : World) : Calls Try.prog 4 #[] w fun e w' => e = .returned (.bool true) ∧ Below w.heap.size w w' := by
  have HS := hide (show Calls Try.prog 5 #[.string ⟨#[99, 102, 32, 69, 46, 65, 32, 91, 97, 45, 99, 93]⟩] w (ScanP _ w) from scan_ok aliveT _ 0 w rfl lex_alive (by decide))
  go_enter Try.func4, Try.ntmps4
  go_wp2_with fail
  refine HS.out.mono ?_
  rintro e w1 ⟨v, ws, last, rfl, hp⟩
  obtain ⟨ho, hk, hm, hb⟩ := hp
  cases hm with
  | cons h0 hm => cases hm with
    | cons h1 hm => cases hm with
      | cons h2 hm => cases hm with
        | cons h3 hm => cases hm with
          | cons h4 hm => cases hm with
            | nil =>
              rename_i x0 x1 x2 x3 x4
              obtain ⟨g, cap, rfl, hB, hg, hcap, hcell⟩ := own_at ho (by simp)
              have hx := h4.2
              rw [set_alive] at hx
              obtain ⟨s4, hs4⟩ : ∃ s, [97, 98, 99].foldl addB zS = s := ⟨_, rfl⟩
              have hok : s4.ok := hs4 ▸ foldl_ok _ _ zS_ok
              have heql := fun W => eql_set W s4 hok
              rw [hs4] at hx
              have HOF := hide (fun W (k : Nat) (h1 : k < W.heap.size) (h2 : Blk W k #[.int .u8 97, .int .u8 98, .int .u8 99] 5) => Of_any [97, 98, 99] k 0 3 W h1 (by decide) (by decide) (fun i hi => by rw [h2.cell]; match i, hi with | 0, _ => rfl | 1, _ => rfl | 2, _ => rfl))
              rw [hs4] at HOF
              replace HOF := hide (fun W k h1 h2 => show Calls Try.prog 8 #[.slice (some ⟨k, 0, none⟩) 3 3] W fun e w' => e = .returned (.agg #[.int .u64 (s4.w0 : Int), .int .u64 (s4.w1 : Int), .int .u64 (s4.w2 : Int), .int .u64 (s4.w3 : Int)]) ∧ Below W.heap.size W w' from HOF.out W k h1 h2)
              have c0 : w1.cell? ⟨g, 47, none⟩ = some (.int .u64 (s4.w0 : Int)) := by rw [← hx]; exact hcell 47 _ rfl
              have c1 : w1.cell? ⟨g, 48, none⟩ = some (.int .u64 (s4.w1 : Int)) := by rw [← hx]; exact hcell 48 _ rfl
              have c2 : w1.cell? ⟨g, 49, none⟩ = some (.int .u64 (s4.w2 : Int)) := by rw [← hx]; exact hcell 49 _ rfl
              have c3 : w1.cell? ⟨g, 50, none⟩ = some (.int .u64 (s4.w3 : Int)) := by rw [← hx]; exact hcell 50 _ rfl
              have HB := hide hb
              have HG := hide hg
              have HC := hide (And.intro c0 (And.intro c1 (And.intro c2 c3)))
              clear ho hk h0 h1 h2 h3 h4 hB hcap hcell hx hs4 hb c0 c1 c2 c3 hg
              go_upto_region 2 with fail
              have hf2 := Blk.new w1 #[.int .i64 0, .int .i64 0] 30
              have hb2 : Below w.heap.size w (w1.alloc (.cells #[.int .i64 0, .int .i64 0] 30)) := NB.alloc HB.out _
              have hd0 := (Below.refl w1.heap.size w1).alloc (Nat.le_refl _) (.cells #[.int .i64 0, .int .i64 0] 30)
              have d0 := (hd0.cell (p := ⟨g, 47, none⟩) HG.out).trans HC.out.1
              have d1 := (hd0.cell (p := ⟨g, 48, none⟩) HG.out).trans HC.out.2.1
              have d2 := (hd0.cell (p := ⟨g, 49, none⟩) HG.out).trans HC.out.2.2.1
              have d3 := (hd0.cell (p := ⟨g, 50, none⟩) HG.out).trans HC.out.2.2.2
              have hg2 : g < (w1.alloc (.cells #[.int .i64 0, .int .i64 0] 30)).heap.size := by have := HG.out; simp; omega
              clear hd0
              obtain ⟨k2, hk2⟩ : ∃ k, w1.heap.size = k := ⟨_, rfl⟩
              rw [hk2] at hf2 ⊢
              clear hk2
              generalize w1.alloc (.cells #[.int .i64 0, .int .i64 0] 30) = w2 at hf2 hb2 d0 d1 d2 d3 hg2 ⊢
              have HALL := hide (fun W (h : Below w2.heap.size w2 W) => (show Hid (Below w2.heap.size w2 W) ∧ W.cell? ⟨g, 47, none⟩ = some (.int .u64 (s4.w0 : Int)) ∧ W.cell? ⟨g, 48, none⟩ = some (.int .u64 (s4.w1 : Int)) ∧ W.cell? ⟨g, 49, none⟩ = some (.int .u64 (s4.w2 : Int)) ∧ W.cell? ⟨g, 50, none⟩ = some (.int .u64 (s4.w3 : Int)) ∧ W.cell? ⟨k2, 0, none⟩ = some (.int .i64 0) ∧ W.cell? ⟨k2, 1, none⟩ = some (.int .i64 0) from
                ⟨hide h, (h.cell (p := ⟨g, 47, none⟩) hg2).trans d0, (h.cell (p := ⟨g, 48, none⟩) hg2).trans d1, (h.cell (p := ⟨g, 49, none⟩) hg2).trans d2, (h.cell (p := ⟨g, 50, none⟩) hg2).trans d3, (hf2.below h).cell 0, (hf2.below h).cell 1⟩))
              have HB2 := hide hb2
              clear hf2 hb2 d0 d1 d2 d3 hg2 HB HG HC HS
              go_region_held3 (fun W => Hid (Below w2.heap.size w2 W) ∧ W.cell? ⟨g, 47, none⟩ = some (.int .u64 (s4.w0 : Int)) ∧ W.cell? ⟨g, 48, none⟩ = some (.int .u64 (s4.w1 : Int)) ∧ W.cell? ⟨g, 49, none⟩ = some (.int .u64 (s4.w2 : Int)) ∧ W.cell? ⟨g, 50, none⟩ = some (.int .u64 (s4.w3 : Int)) ∧ W.cell? ⟨k2, 0, none⟩ = some (.int .i64 0) ∧ W.cell? ⟨k2, 1, none⟩ = some (.int .i64 0))
                ((refine HALL.out _ ?_; repeat' (with_reducible (first | exact (Hid.out (And.left (by assumption))) | exact Below.refl _ _ | refine Below.drew ?_ | refine NB.alloc ?_ _ | refine NB.below ?_ (by assumption)))))
                (first | (go_at_call 8; refine (HOF.out _ _ (by simp) (by first | exact Blk.new _ _ _ | exact blk_drew (Blk.new _ _ _))).mono ?_; rintro e w5 ⟨rfl, hb5⟩))
              all_goals
                go_wp2_with fail
                go_ret
                refine ⟨rfl, below_next HB2.out ?_⟩
                repeat' (with_reducible (first | exact (Hid.out (And.left (by assumption))) | exact Below.refl _ _ | refine Below.drew ?_ | refine NB.alloc ?_ _ | refine NB.below ?_ (by assumption)))
end Go.Proofs.Ytfngkdcjifdliaa
