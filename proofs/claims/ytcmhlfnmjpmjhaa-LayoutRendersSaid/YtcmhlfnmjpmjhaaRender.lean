/- The walks of Render and Broken. -/
import Derived.Test.YtcmhlfnmjpmjhaaRun
import Derived.Shelf.RegionOpen
set_option linter.unusedVariables false
set_option linter.unusedSimpArgs false
set_option linter.unnecessarySimpa false
set_option linter.deprecated false
namespace Go.Proofs.Ytcmhlfnmjpmjhaa
open Go.RowKit Go.Shelf

theorem cellsByte : Try.prog.cellsOf 5 = 1 := by kernel_rfl

set_option maxHeartbeats 2000000 in
set_option maxRecDepth 100000 in
theorem String_nil {T : TypeId} {ex : List Value} (B b : Nat) (p : Value) (w : World) (hbk : w.heap[b]? = some (.cells (p :: .slice none 0 0 :: ex).toArray T (0, 0))) :
    Calls Try.prog 22 #[.pointer (some ⟨b, 0, none⟩)] w fun e w' => e = .returned (.string emptyB) ∧ Below B w w' := by
  have hUS := Any.unsafeString_none Try.lays169 Try.Builder_Extra_169
  have c1 : w.drew.cell? ⟨b, 1, none⟩ = some (.slice none 0 0) := by
    have : w.drew.heap[b]? = some (.cells (p :: .slice none 0 0 :: ex).toArray T (0, 0)) := hbk
    rw [Lib.cell_of_heap this]; rfl
  have hSD : (Builtin.unsafeSliceData_ #[36] 68 #[.slice none 0 0]).run Try.prog w.drew = .ok (.pointer none) w.drew := rfl
  have hUS2 : (Builtin.unsafeString_ #[68, 3] 9 #[.pointer none, .int .i64 0]).run Try.prog w.drew = .ok (.string .empty) w.drew := hUS w.drew none
  clear hUS
  have mixed := Try.lays169.mixed
  go_enter Try.func22, Try.ntmps22
  go_wp2
  go_region_o
  all_goals (go_wp2; go_ret; exact ⟨rfl, Below.drew (Below.refl B w)⟩)

set_option maxHeartbeats 2000000 in
set_option maxRecDepth 100000 in
theorem String_b {T : TypeId} {ex : List Value} (B b : Nat) (l : List UInt8) (w : World) (h : WB True T ex B b l w) :
    Calls Try.prog 22 #[.pointer (some ⟨b, 0, none⟩)] w fun e w' => e = .returned (.string ⟨l.toArray⟩) ∧ Below B w w' := by
  obtain ⟨hB, p, v, hp, hbk, hown, hN⟩ := h
  by_cases h0 : l = []
  · subst h0
    have hv := hN trivial rfl
    subst hv
    exact String_nil B b p w hbk
  have hl0 : l.length ≠ 0 := by simpa using h0
  obtain ⟨g, cap, cur, fz, rfl, hbg, hg, hfz, hnc, hcm, hcs, htake⟩ : ∃ g cap cur fz, v = .slice (some ⟨g, 0, none⟩) l.length cap ∧ B ≤ g ∧ w.heap[g]? = some (.cells cur 5 fz) ∧ fz.2 ≤ l.length * 1 ∧ l.length ≤ cap ∧ cap ≤ maxLen ∧ cur.size = cap * 1 ∧ cur.toList.take (l.length * 1) = Lib.byteCells l := by
    rcases hown.2 with ⟨_, hz⟩ | ⟨g, cap, cur, fz, hv, r⟩
    · exact absurd hz hl0
    · exact ⟨g, cap, cur, fz, hv, r⟩
  have c1 : w.drew.cell? ⟨b, 1, none⟩ = some (.slice (some ⟨g, 0, none⟩) l.length cap) := by
    have : w.drew.heap[b]? = some (.cells (p :: .slice (some ⟨g, 0, none⟩) l.length cap :: ex).toArray T (0, 0)) := hbk
    rw [Lib.cell_of_heap this]; rfl
  have hSD : (Builtin.unsafeSliceData_ #[36] 68 #[.slice (some ⟨g, 0, none⟩) l.length cap]).run Try.prog w.drew = .ok (.pointer (some ⟨g, 0, none⟩)) w.drew :=
    Lib.run_unsafeSliceData_row _ _ _ _ _ _ (by omega)
  have hUS : (Builtin.unsafeString_ #[68, 3] 9 #[.pointer (some ⟨g, 0, none⟩), .int .i64 l.length]).run Try.prog w.drew = .ok (.string ⟨l.toArray⟩) (w.drew.freeze ⟨g, 0, none⟩ l.length) := by
    refine Lib.run_unsafeString_row w.drew 68 3 9 5 Try.underlying68 cellsByte g cur.size (by have hg' : w.drew.heap[g]? = some (.cells cur 5 fz) := hg; simp [World.shape?, hg']) l h0 (by omega) (by unfold maxLen at hcm; omega) ?_
    intro j x hx
    have := hown.cells (g := g) rfl j (.int .u8 x.toNat) (by simp [Lib.byteCells, hx])
    exact this
  have hE := hide (show Below B w (w.drew.freeze ⟨g, 0, none⟩ l.length) from Lib.below_freeze (Below.drew (Below.refl B w)) (p := ⟨g, 0, none⟩) hbg _)
  clear hown hbk hg hN hp
  have mixed := Try.lays169.mixed
  go_enter Try.func22, Try.ntmps22
  go_wp2
  go_region_o
  all_goals (go_wp2; go_ret; exact ⟨rfl, hE.out⟩)

/-- What Render answers. -/
def rendM (d : Dc) (width : Int) : ByteArray × Int := if rtB 200 d then (if (outM d width).long then (emptyB, 2) else (⟨(outM d width).out.toArray⟩, 0)) else (emptyB, 140)
/-- What Broken answers. -/
def brokM (d : Dc) (width : Int) : Nat × Int := if rtB 200 d then (if (outM d width).long then (0, 2) else ((outM d width).brk, 0)) else (0, 140)

set_option maxHeartbeats 2000000 in
set_option maxRecDepth 100000 in
theorem Render_any (d : Dc) (v : Value) (width : Int) (w : World) (hT : RD w d v) (hc : cnt d ≤ 10000) (hv : vol d ≤ 1000000) (hw : -9223372036854775808 ≤ width ∧ width ≤ 9223372036854775807) :
    Calls Try.prog 11 #[v, .int .i64 width] w fun e w' => e = .returned (.tuple #[.string (rendM d width).1, .int .i64 (rendM d width).2]) ∧ Below w.heap.size w w' := by
  obtain ⟨a2, c2, rfl, hkd, htx, hnn, hks⟩ := hT.open
  have hb0 := (Below.refl w.heap.size w).alloc (Nat.le_refl _) (.cells #[.int .i64 d.kind, .string d.text, .int .i64 d.num, .slice a2 d.kids.length c2] 24)
  have HB0 := hide hb0
  have HR := hide (run_any d _ width _ (RD.below hb0 hT) hc hv hw)
  clear hT hks hb0 hc hv
  cases hr : rtB 200 d with
  | false =>
    have hq : rendM d width = (emptyB, 140) := by unfold rendM; rw [hr]; rfl
    rw [hq]
    clear hq
    go_enter Try.func11, Try.ntmps11
    go_wp2_with fail
    refine HR.out.mono ?_
    rintro e w1 ⟨h1, h2⟩
    have HB1 := hide (below_next HB0.out h1.out)
    rcases h2 with ⟨_, rfl⟩ | ⟨hr', _⟩ | ⟨hr', _⟩
    · clear h1
      go_wp2_with fail
      go_ret2
      exact ⟨rfl, HB1.out⟩
    · rw [hr] at hr'; cases hr'
    · rw [hr] at hr'; cases hr'
  | true =>
    cases hl : (outM d width).long with
    | true =>
      have hq : rendM d width = (emptyB, 2) := by unfold rendM; rw [hr, hl]; rfl
      rw [hq]
      clear hq
      go_enter Try.func11, Try.ntmps11
      go_wp2_with fail
      refine HR.out.mono ?_
      rintro e w1 ⟨h1, h2⟩
      have HB1 := hide (below_next HB0.out h1.out)
      rcases h2 with ⟨hr', _⟩ | ⟨_, _, rfl⟩ | ⟨_, hl', _⟩
      · rw [hr] at hr'; cases hr'
      · clear h1
        go_wp2_with fail
        go_ret2
        exact ⟨rfl, HB1.out⟩
      · rw [hl] at hl'; cases hl'
    | false =>
      have hq : rendM d width = (⟨(outM d width).out.toArray⟩, 0) := by unfold rendM; rw [hr, hl]; rfl
      rw [hq]
      clear hq
      go_enter Try.func11, Try.ntmps11
      go_wp2_with fail
      refine HR.out.mono ?_
      rintro e w1 ⟨h1, h2⟩
      have HB1 := hide (below_next HB0.out h1.out)
      rcases h2 with ⟨hr', _⟩ | ⟨_, hl', _⟩ | ⟨_, _, wb, rfl, h51⟩
      · rw [hr] at hr'; cases hr'
      · rw [hl] at hl'; cases hl'
      · have HS := hide (String_b _ wb _ w1 h51.out)
        have hE := hide (show ∀ w2, Below (w.alloc (.cells #[.int .i64 d.kind, .string d.text, .int .i64 d.num, .slice a2 d.kids.length c2] 24)).heap.size w1 w2 → Below w.heap.size w w2 from fun w2 h => HB1.out.trans (h.mono HB0.out.size))
        clear h1 h51
        go_wp2_with (go_at_call 22; refine HS.out.mono ?_; rintro e w2 ⟨rfl, h2⟩)
        go_ret2
        exact ⟨rfl, hE.out _ h2⟩

set_option maxHeartbeats 2000000 in
set_option maxRecDepth 100000 in
theorem Broken_any (d : Dc) (v : Value) (width : Int) (w : World) (hT : RD w d v) (hc : cnt d ≤ 10000) (hv : vol d ≤ 1000000) (hw : -9223372036854775808 ≤ width ∧ width ≤ 9223372036854775807) :
    Calls Try.prog 12 #[v, .int .i64 width] w fun e w' => e = .returned (.tuple #[.int .i64 (brokM d width).1, .int .i64 (brokM d width).2]) ∧ Below w.heap.size w w' := by
  obtain ⟨a2, c2, rfl, hkd, htx, hnn, hks⟩ := hT.open
  have hb0 := (Below.refl w.heap.size w).alloc (Nat.le_refl _) (.cells #[.int .i64 d.kind, .string d.text, .int .i64 d.num, .slice a2 d.kids.length c2] 24)
  have HB0 := hide hb0
  have HR := hide (run_any d _ width _ (RD.below hb0 hT) hc hv hw)
  clear hT hks hb0 hc hv
  cases hr : rtB 200 d with
  | false =>
    have hq : brokM d width = (0, 140) := by unfold brokM; rw [hr]; rfl
    rw [hq]
    clear hq
    go_enter Try.func12, Try.ntmps12
    go_wp2_with fail
    refine HR.out.mono ?_
    rintro e w1 ⟨h1, h2⟩
    have HB1 := hide (below_next HB0.out h1.out)
    rcases h2 with ⟨_, rfl⟩ | ⟨hr', _⟩ | ⟨hr', _⟩
    · clear h1
      go_wp2_with fail
      go_ret2
      exact ⟨rfl, HB1.out⟩
    · rw [hr] at hr'; cases hr'
    · rw [hr] at hr'; cases hr'
  | true =>
    cases hl : (outM d width).long with
    | true =>
      have hq : brokM d width = (0, 2) := by unfold brokM; rw [hr, hl]; rfl
      rw [hq]
      clear hq
      go_enter Try.func12, Try.ntmps12
      go_wp2_with fail
      refine HR.out.mono ?_
      rintro e w1 ⟨h1, h2⟩
      have HB1 := hide (below_next HB0.out h1.out)
      rcases h2 with ⟨hr', _⟩ | ⟨_, _, rfl⟩ | ⟨_, hl', _⟩
      · rw [hr] at hr'; cases hr'
      · clear h1
        go_wp2_with fail
        go_ret2
        exact ⟨rfl, HB1.out⟩
      · rw [hl] at hl'; cases hl'
    | false =>
      have hq : brokM d width = ((outM d width).brk, 0) := by unfold brokM; rw [hr, hl]; rfl
      rw [hq]
      clear hq
      go_enter Try.func12, Try.ntmps12
      go_wp2_with fail
      refine HR.out.mono ?_
      rintro e w1 ⟨h1, h2⟩
      have HB1 := hide (below_next HB0.out h1.out)
      rcases h2 with ⟨hr', _⟩ | ⟨_, hl', _⟩ | ⟨_, _, wb, rfl, h51⟩
      · rw [hr] at hr'; cases hr'
      · rw [hl] at hl'; cases hl'
      · have e4 : w1.cell? ⟨wb, 4, none⟩ = some (.int .i64 ((outM d width).brk : Int)) := h51.out.cell 2
        have l4 := h51.out.lt
        clear h1 h51
        go_wp2_with fail
        go_ret2
        exact ⟨rfl, HB1.out⟩

end Go.Proofs.Ytcmhlfnmjpmjhaa
