/- The walks of two and alive. -/
import Derived.Test.YtcmhlfnmjpmjhaaRender
set_option linter.unusedVariables false
set_option linter.unusedSimpArgs false
set_option linter.unnecessarySimpa false
set_option linter.deprecated false
namespace Go.Proofs.Ytcmhlfnmjpmjhaa
open Go.RowKit

abbrev bA : ByteArray := ⟨#[97]⟩
abbrev bB : ByteArray := ⟨#[98]⟩
def twoD : Dc := .mk 5 emptyB 0 [.mk 1 bA 0 [], .mk 2 blank 0 [], .mk 1 bB 0 []]
def noneD : Dc := .mk 0 emptyB 0 []
abbrev twoCells : Array Value := #[.int .i64 1, .string bA, .int .i64 0, .slice none 0 0, .int .i64 2, .string blank, .int .i64 0, .slice none 0 0, .int .i64 1, .string bB, .int .i64 0, .slice none 0 0]
theorem rd_two {w : World} {b : Nat} (h : Blk w b twoCells 24) : RD w twoD (.agg #[.int .i64 5, .string emptyB, .int .i64 0, .slice (some ⟨b, 0, none⟩) 3 3]) := by
  have hz : ∀ (k : Int) (s : ByteArray), (-9223372036854775808 ≤ k ∧ k ≤ 9223372036854775807) → s.size ≤ 140737488351232 → RDo (fun _ => True) w (.mk k s 0 []) (.agg #[.int .i64 k, .string s, .int .i64 0, .slice none 0 0]) := fun k s h1 h2 => RDo.shut h1 h2 (by omega) RKo.nil rfl
  refine RDo.shut (by omega) (by decide) (by omega) ⟨by simp, fun _ => ⟨b, 0, rfl, trivial, h.lt, ?_⟩⟩ rfl
  refine RDos.of fun i hi => ?_
  have hc := h.cell
  match i, hi with
  | 0, _ => exact ⟨_, _, _, _, hc 0, hc 1, hc 2, hc 3, hz 1 bA (by omega) (by decide)⟩
  | 1, _ => exact ⟨_, _, _, _, hc 4, hc 5, hc 6, hc 7, hz 2 blank (by omega) (by decide)⟩
  | 2, _ => exact ⟨_, _, _, _, hc 8, hc 9, hc 10, hc 11, hz 1 bB (by omega) (by decide)⟩

theorem ret20 {R : Ending → World → Prop} {a : Act} {W : World} {k : Nat} {v0 v1 v2 v3 : Value} (h0 : (a.tmps[0]?).getD undef = .pointer (some ⟨k, 0, none⟩)) (hd : a.defers = []) (hb : Blk W k #[v0, v1, v2, v3] 24) (hR : R (.returned (.agg #[v0, v1, v2, v3])) W) : bodyPost Try.prog Try.f20 R .ret a W := by
  have f0 : W.cell? ⟨k, 0, none⟩ = some v0 := hb.cell 0
  have f1 : W.cell? ⟨k, 1, none⟩ = some v1 := hb.cell 1
  have f2 : W.cell? ⟨k, 2, none⟩ = some v2 := hb.cell 2
  have f3 : W.cell? ⟨k, 3, none⟩ = some v3 := hb.cell 3
  refine ⟨hd, .agg #[v0, v1, v2, v3], ?_, hR⟩
  simp [results, Try.results20, h0, go_sem, f0, f1, f2, f3, Try.isAgg24, Try.sizeOf24]

set_option maxHeartbeats 2000000 in
set_option maxRecDepth 100000 in
theorem two_any (w : World) : Calls Try.prog 20 #[] w fun e w' => ∃ b, e = .returned (.agg #[.int .i64 5, .string emptyB, .int .i64 0, .slice (some ⟨b, 0, none⟩) 3 3]) ∧ Hid (Blk w' b twoCells 24 ∧ Below w.heap.size w w') := by
  go_enter Try.func20, Try.ntmps20
  go_wp2_with fail
  refine ret20 rfl rfl (k := w.heap.size) (v0 := .int .i64 5) (v1 := .string emptyB) (v2 := .int .i64 0) (v3 := .slice (some ⟨w.heap.size + 1, 0, none⟩) 3 3) ?_ ?_
  · exact (Blk.new w _ _).alloc _
  · refine ⟨w.heap.size + 1, rfl, ?_, ((Below.refl _ w).alloc (Nat.le_refl _) _).alloc (by simp) _⟩
    have := Blk.new (w.alloc (.cells #[.int .i64 5, .string emptyB, .int .i64 0, .slice (some ⟨w.heap.size + 1, 0, none⟩) 3 3] 24)) twoCells 24
    rw [World.size_alloc] at this
    exact this

theorem fix1 : rendM twoD 3 = (⟨#[97, 32, 98]⟩, 0) := by kernel_rfl
theorem fix2 : rendM twoD 2 = (⟨#[97, 10, 98]⟩, 0) := by kernel_rfl
theorem fix3 : brokM twoD 2 = (1, 0) := by kernel_rfl
theorem fix4 : rendM noneD 2 = (emptyB, 140) := by kernel_rfl
theorem fix5 : rtB 200 twoD = true := by kernel_rfl
theorem fix6 : cnt twoD = 4 ∧ vol twoD = 3 ∧ cnt noneD = 1 ∧ vol noneD = 0 := ⟨by kernel_rfl, by kernel_rfl, by kernel_rfl, by kernel_rfl⟩
abbrev twoV (b : Nat) : Value := .agg #[.int .i64 5, .string emptyB, .int .i64 0, .slice (some ⟨b, 0, none⟩) 3 3]
theorem rend3 (b : Nat) (w : World) (h : Blk w b twoCells 24) : Calls Try.prog 11 #[twoV b, .int .i64 3] w fun e w' => e = .returned (.tuple #[.string ⟨#[97, 32, 98]⟩, .int .i64 0]) ∧ Below w.heap.size w w' := by
  have h1 := Render_any twoD (twoV b) 3 w (rd_two h) (by rw [fix6.1]; omega) (by rw [fix6.2.1]; omega) (by omega)
  rw [fix1] at h1
  exact h1
theorem rend2 (b : Nat) (w : World) (h : Blk w b twoCells 24) : Calls Try.prog 11 #[twoV b, .int .i64 2] w fun e w' => e = .returned (.tuple #[.string ⟨#[97, 10, 98]⟩, .int .i64 0]) ∧ Below w.heap.size w w' := by
  have h1 := Render_any twoD (twoV b) 2 w (rd_two h) (by rw [fix6.1]; omega) (by rw [fix6.2.1]; omega) (by omega)
  rw [fix2] at h1
  exact h1
theorem brok2 (b : Nat) (w : World) (h : Blk w b twoCells 24) : Calls Try.prog 12 #[twoV b, .int .i64 2] w fun e w' => e = .returned (.tuple #[.int .i64 1, .int .i64 0]) ∧ Below w.heap.size w w' := by
  have h1 := Broken_any twoD (twoV b) 2 w (rd_two h) (by rw [fix6.1]; omega) (by rw [fix6.2.1]; omega) (by omega)
  rw [fix3] at h1
  exact h1
theorem rendN (w : World) : Calls Try.prog 11 #[.agg #[.int .i64 0, .string emptyB, .int .i64 0, .slice none 0 0], .int .i64 2] w fun e w' => e = .returned (.tuple #[.string emptyB, .int .i64 140]) ∧ Below w.heap.size w w' := by
  have h1 := Render_any noneD (.agg #[.int .i64 0, .string emptyB, .int .i64 0, .slice none 0 0]) 2 w (RDo.shut (by omega) (by decide) (by omega) RKo.nil rfl) (by rw [fix6.2.2.1]; omega) (by rw [fix6.2.2.2]; omega) (by omega)
  rw [fix4] at h1
  exact h1
theorem rt2 (b : Nat) (w : World) (h : Blk w b twoCells 24) : Calls Try.prog 14 #[twoV b] w fun e w' => e = .returned (.bool true) ∧ Below w.heap.size w w' := by
  have h1 := Right_any twoD (twoV b) w (rd_two h) (by rw [fix6.1]; omega)
  rw [fix5] at h1
  exact h1

set_option maxHeartbeats 4000000 in
set_option maxRecDepth 100000 in
theorem alive_any (w : World) : Calls Try.prog 10 #[] w fun e w' => e = .returned (.bool true) ∧ Below w.heap.size w w' := by
  have HB := hide (Below.refl w.heap.size w)
  go_enter Try.func10, Try.ntmps10
  go_wp2_with fail
  refine (two_any _).mono ?_
  rintro e wa ⟨b, rfl, hh⟩
  have HH := hide hh.out.1
  replace HB := hide (below_next HB.out hh.out.2)
  clear hh
  go_wp2_with fail
  refine (rend3 _ _ HH.out).mono ?_
  rintro e wa ⟨rfl, h1⟩
  replace HB := hide (below_next HB.out h1)
  clear h1
  clear HH
  go_wp2_with fail
  refine (two_any _).mono ?_
  rintro e wa ⟨b, rfl, hh⟩
  have HH := hide hh.out.1
  replace HB := hide (below_next HB.out hh.out.2)
  clear hh
  go_wp2_with fail
  refine (rend2 _ _ HH.out).mono ?_
  rintro e wa ⟨rfl, h1⟩
  replace HB := hide (below_next HB.out h1)
  clear h1
  clear HH
  go_wp2_with fail
  refine (two_any _).mono ?_
  rintro e wa ⟨b, rfl, hh⟩
  have HH := hide hh.out.1
  replace HB := hide (below_next HB.out hh.out.2)
  clear hh
  go_wp2_with fail
  refine (brok2 _ _ HH.out).mono ?_
  rintro e wa ⟨rfl, h1⟩
  replace HB := hide (below_next HB.out h1)
  clear h1
  clear HH
  go_wp2_with fail
  refine (rendN _).mono ?_
  rintro e wa ⟨rfl, h1⟩
  replace HB := hide (below_next HB.out h1)
  clear h1
  go_wp2_with fail
  refine (two_any _).mono ?_
  rintro e wa ⟨b, rfl, hh⟩
  have HH := hide hh.out.1
  replace HB := hide (below_next HB.out hh.out.2)
  clear hh
  go_wp2_with fail
  refine (rt2 _ _ HH.out).mono ?_
  rintro e wa ⟨rfl, h1⟩
  replace HB := hide (below_next HB.out h1)
  clear h1
  go_wp2_with fail
  go_ret
  exact ⟨rfl, HB.out⟩
end Go.Proofs.Ytcmhlfnmjpmjhaa
