/- The law LayoutRenders, walked. -/
import Derived.Test.YtcmhlfnmjpmjhaaAlive
import Derived.Test.YtcmhlfnmjpmjhaaRefR
set_option linter.unusedVariables false
set_option linter.unusedSimpArgs false
set_option linter.unnecessarySimpa false
set_option linter.deprecated false
namespace Go.Proofs.Ytcmhlfnmjpmjhaa
open Go.RowKit

theorem err_same (d : Dc) (width : Int) : (brokM d width).2 = (rendM d width).2 := by
  unfold rendM brokM
  split
  · split <;> rfl
  · rfl

set_option maxHeartbeats 8000000 in
set_option maxRecDepth 100000 in
theorem law_renders (d : Dc) (width : Int) (v : Value) (w : World) (hT : RD w d v) (hw : -9223372036854775808 ≤ width ∧ width ≤ 9223372036854775807) :
    Calls Try.prog 3 #[v, .int .i64 width] w fun e w' => e = .returned (.bool true) ∧ Below w.heap.size w w' := by
  obtain ⟨a2, c2, rfl, hkd, htt, hnn, hks⟩ := hT.open
  have HT := hide (fun W (h : Below w.heap.size w W) => RD.below h hT)
  have hb0 := (Below.refl w.heap.size w).alloc (Nat.le_refl _) (.cells #[.int .i64 d.kind, .string d.text, .int .i64 d.num, .slice a2 d.kids.length c2] 24)
  have HB := hide hb0
  have HBX := hide (Blk.new w #[.int .i64 d.kind, .string d.text, .int .i64 d.num, .slice a2 d.kids.length c2] 24)
  have HH := hide (heavy_any d _ _ (HT.out _ hb0))
  have HA := hide (fun W => alive_any W)
  clear hT hks hb0
  go_enter Try.func3, Try.ntmps3
  cases hh : heavyB d with
  | true =>
    rw [hh] at HH
    go_wp2_with fail
    refine HH.out.mono ?_
    rintro e w1 ⟨rfl, h1⟩
    replace HB := hide (below_next HB.out h1)
    clear h1
    go_wp2_with fail
    refine (HA.out _).mono ?_
    rintro e w2 ⟨rfl, h2⟩
    replace HB := hide (below_next HB.out h2)
    clear h2
    go_wp2_with fail
    go_ret
    exact ⟨rfl, HB.out⟩
  | false =>
    rw [hh] at HH
    obtain ⟨hc7, hv7⟩ := of_heavy hh
    have HC1 := hide (fun W v h => Render_any d v width W h (by omega) (by omega) hw)
    have HC2 := hide (fun W v h => Broken_any d v width W h (by omega) (by omega) hw)
    have HC3 := hide (fun W v h => RRender_any d v width W h (by omega) (by omega) hw)
    obtain ⟨⟨s, e1⟩, hr1⟩ : ∃ r, rendM d width = r := ⟨_, rfl⟩
    obtain ⟨⟨n, e2⟩, hr2⟩ : ∃ r, brokM d width = r := ⟨_, rfl⟩
    have he := err_same d width
    rw [hr1, hr2] at he
    have he2 : e2 = e1 := he
    subst he2
    rw [hr1] at HC1 HC3
    rw [hr2] at HC2 HC3
    clear hr1 hr2 he hc7 hv7 hh
    go_wp2_with fail
    refine HH.out.mono ?_
    rintro e w1 ⟨rfl, h1⟩
    replace HB := hide (below_next HB.out h1)
    replace HBX := hide (HBX.out.below h1)
    clear h1 HH
    have b0 := HBX.out.cell 0
    have b1 := HBX.out.cell 1
    have b2 := HBX.out.cell 2
    have b3 := HBX.out.cell 3
    have bl := HBX.out.lt
    go_wp2_with fail
    refine (HC1.out _ _ (HT.out _ HB.out)).mono ?_
    rintro e w2 ⟨rfl, h1⟩
    replace HB := hide (below_next HB.out h1)
    replace HBX := hide (HBX.out.below h1)
    clear h1 HC1 b0 b1 b2 b3 bl
    have b0 := HBX.out.cell 0
    have b1 := HBX.out.cell 1
    have b2 := HBX.out.cell 2
    have b3 := HBX.out.cell 3
    have bl := HBX.out.lt
    go_wp2_with fail
    refine (HC2.out _ _ (HT.out _ HB.out)).mono ?_
    rintro e w3 ⟨rfl, h1⟩
    replace HB := hide (below_next HB.out h1)
    replace HBX := hide (HBX.out.below h1)
    clear h1 HC2 b0 b1 b2 b3 bl
    have b0 := HBX.out.cell 0
    have b1 := HBX.out.cell 1
    have b2 := HBX.out.cell 2
    have b3 := HBX.out.cell 3
    have bl := HBX.out.lt
    go_wp2_with fail
    refine (HC3.out _ _ (HT.out _ HB.out)).mono ?_
    rintro e w4 ⟨rfl, h1⟩
    replace HB := hide (below_next HB.out h1)
    clear h1 HC3 b0 b1 b2 b3 bl HBX
    go_wp2_with fail
    refine (HA.out _).mono ?_
    rintro e w5 ⟨rfl, h1⟩
    replace HB := hide (below_next HB.out h1)
    clear h1
    go_wp2_with fail
    go_ret
    exact ⟨rfl, HB.out⟩
end Go.Proofs.Ytcmhlfnmjpmjhaa
