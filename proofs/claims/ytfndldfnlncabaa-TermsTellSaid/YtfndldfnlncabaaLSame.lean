/- The law TermsSame, walked. -/
import Derived.Test.YtfndldfnlncabaaAlive
import Derived.Test.YtfndldfnlncabaaParts
import Derived.Test.YtfndldfnlncabaaRSame
import Derived.Test.YtfndldfnlncabaaRCopy
import Derived.Deep.RegionHeld3
set_option linter.unnecessarySimpa false
set_option linter.deprecated false
namespace Go.Proofs.Ytfndldfnlncabaa
open Go.RowKit
set_option linter.unusedVariables false
set_option linter.unusedSimpArgs false

mutual
theorem parts_cnt : ∀ (T : Tm) (most : Int), parts T most ≤ most → (cnt T : Int) ≤ parts T most
  | .mk k c t ks, most, h => by
    rw [parts] at h ⊢
    rw [cnt]
    have := partsL_cnt ks (1 + (t.length / 64 : Nat)) most h
    omega
theorem partsL_cnt : ∀ (ks : List Tm) (n most : Int), partsL ks n most ≤ most → n + (cntL ks : Int) ≤ partsL ks n most
  | [], n, most, h => by rw [partsL, cntL]; omega
  | x :: xs, n, most, h => by
    rw [partsL] at h ⊢
    rw [cntL]
    by_cases hn : n ≤ most
    · rw [if_pos hn] at h ⊢
      have h1 := partsL_cnt xs _ _ h
      have h2 := parts_cnt x (most - n) (by omega)
      omega
    · rw [if_neg hn] at h
      omega
end
theorem cnt_of_heavy {T : Tm} (h : heavyB T = false) : cnt T ≤ 1000 := by
  unfold heavyB at h
  have := of_decide_eq_false h
  have := parts_cnt T 1000 (by omega)
  omega

set_option maxHeartbeats 4000000 in
set_option maxRecDepth 100000 in
theorem law_same (T U : Tm) (v u : Value) (w : World) (hT : RT w T v) (hU : RT w U u) : Calls Try.prog 6 #[v, u] w fun e w' => e = .returned (.bool true) ∧ Below w.heap.size w w' := by
  obtain ⟨a1, c1, a2, c2, rfl, _, _, _, _⟩ := hT.open
  obtain ⟨b1, d1, b2, d2, rfl, _, _, _, _⟩ := hU.open
  have HA := hide (fun W => alive_any W)
  have HT := hide (fun W (h : Below w.heap.size w W) => RT.below h hT)
  have HU := hide (fun W (h : Below w.heap.size w W) => RT.below h hU)
  have HV1 := hide (fun W h => heavy_any T (.agg #[.int .i64 T.kind, .string T.cons, .slice a1 T.text.length c1, .slice a2 T.kids.length c2]) W h)
  have HV2 := hide (fun W h => heavy_any U (.agg #[.int .i64 U.kind, .string U.cons, .slice b1 U.text.length d1, .slice b2 U.kids.length d2]) W h)
  have hbA := Blk.new w #[.int .i64 T.kind, .string T.cons, .slice a1 T.text.length c1, .slice a2 T.kids.length c2] 25
  have HW := hide (two_boxes0 w (.cells #[.int .i64 T.kind, .string T.cons, .slice a1 T.text.length c1, .slice a2 T.kids.length c2] 25) (.cells #[.int .i64 U.kind, .string U.cons, .slice b1 U.text.length d1, .slice b2 U.kids.length d2] 25))
  have HB := hide (show Blk ((w.alloc (.cells #[.int .i64 T.kind, .string T.cons, .slice a1 T.text.length c1, .slice a2 T.kids.length c2] 25)).alloc (.cells #[.int .i64 U.kind, .string U.cons, .slice b1 U.text.length d1, .slice b2 U.kids.length d2] 25)) w.heap.size #[.int .i64 T.kind, .string T.cons, .slice a1 T.text.length c1, .slice a2 T.kids.length c2] 25 ∧ Blk ((w.alloc (.cells #[.int .i64 T.kind, .string T.cons, .slice a1 T.text.length c1, .slice a2 T.kids.length c2] 25)).alloc (.cells #[.int .i64 U.kind, .string U.cons, .slice b1 U.text.length d1, .slice b2 U.kids.length d2] 25)) (w.heap.size + 1) #[.int .i64 U.kind, .string U.cons, .slice b1 U.text.length d1, .slice b2 U.kids.length d2] 25 from by
    refine ⟨hbA.alloc _, ?_⟩
    have := Blk.new (w.alloc (.cells #[.int .i64 T.kind, .string T.cons, .slice a1 T.text.length c1, .slice a2 T.kids.length c2] 25)) #[.int .i64 U.kind, .string U.cons, .slice b1 U.text.length d1, .slice b2 U.kids.length d2] 25
    rw [World.size_alloc] at this
    exact this)
  clear hT hU hbA
  cases h1 : heavyB T with
  | true =>
    rw [h1] at HV1
    go_enter Try.func6, Try.ntmps6
    go_wp2_with fail
    refine (HV1.out _ (HT.out _ HW.out)).mono ?_
    rintro e w1 ⟨rfl, hb1⟩
    have HB1 := hide (HW.out.trans (hb1.mono HW.out.size))
    clear hb1
    go_wp2_with fail
    refine (HA.out _).mono ?_
    rintro e w2 ⟨rfl, hb2⟩
    have HB2 := hide (HB1.out.trans (hb2.mono HB1.out.size))
    clear hb2
    go_wp2_with fail
    go_ret
    exact ⟨rfl, HB2.out⟩
  | false =>
    rw [h1] at HV1
    cases h2 : heavyB U with
    | true =>
      rw [h2] at HV2
      go_enter Try.func6, Try.ntmps6
      go_wp2_with fail
      refine (HV1.out _ (HT.out _ HW.out)).mono ?_
      rintro e w1 ⟨rfl, hb1⟩
      have HB1 := hide (HW.out.trans (hb1.mono HW.out.size))
      have hc := HB.out.2.below hb1
      have e0 := hc.cell 0
      have e1 := hc.cell 1
      have e2 := hc.cell 2
      have e3 := hc.cell 3
      have el := hc.lt
      clear hb1 hc
      go_wp2_with fail
      refine (HV2.out _ (HU.out _ HB1.out)).mono ?_
      rintro e w2 ⟨rfl, hb2⟩
      have HB2 := hide (HB1.out.trans (hb2.mono HB1.out.size))
      clear hb2
      go_wp2_with fail
      refine (HA.out _).mono ?_
      rintro e w3 ⟨rfl, hb3⟩
      have HB3 := hide (HB2.out.trans (hb3.mono HB2.out.size))
      clear hb3
      go_wp2_with fail
      go_ret
      exact ⟨rfl, HB3.out⟩
    | false =>
      rw [h2] at HV2
      have HC1 := hide (cnt_of_heavy h1)
      go_enter Try.func6, Try.ntmps6
      go_wp2_with fail
      refine (HV1.out _ (HT.out _ HW.out)).mono ?_
      rintro e w1 ⟨rfl, hb1⟩
      have HB1 := hide (HW.out.trans (hb1.mono HW.out.size))
      have hc := HB.out.2.below hb1
      have hc0 := HB.out.1.below hb1
      have e0 := hc.cell 0
      have e1 := hc.cell 1
      have e2 := hc.cell 2
      have e3 := hc.cell 3
      have el := hc.lt
      clear hb1
      go_wp2_with fail
      refine (HV2.out _ (HU.out _ HB1.out)).mono ?_
      rintro e w2 ⟨rfl, hb2⟩
      have HB2 := hide (HB1.out.trans (hb2.mono HB1.out.size))
      have HCA := hide (hc0.below hb2)
      have HCB := hide (hc.below hb2)
      clear hb2 hc hc0 e0 e1 e2 e3 el
      go_upto_region 3 with fail
      have HS := hide (fun (W : World) (h : Below w2.heap.size w2 W) => (show Below w2.heap.size w2 W ∧ W.cell? ⟨w.heap.size, 0, none⟩ = some (.int .i64 T.kind) ∧ W.cell? ⟨w.heap.size, 1, none⟩ = some (.string T.cons) ∧ W.cell? ⟨w.heap.size, 2, none⟩ = some (.slice a1 T.text.length c1) ∧ W.cell? ⟨w.heap.size, 3, none⟩ = some (.slice a2 T.kids.length c2) ∧ W.cell? ⟨w.heap.size + 1, 0, none⟩ = some (.int .i64 U.kind) ∧ W.cell? ⟨w.heap.size + 1, 1, none⟩ = some (.string U.cons) ∧ W.cell? ⟨w.heap.size + 1, 2, none⟩ = some (.slice b1 U.text.length d1) ∧ W.cell? ⟨w.heap.size + 1, 3, none⟩ = some (.slice b2 U.kids.length d2) from
        have p := HCA.out.below h
        have q := HCB.out.below h
        ⟨h, p.cell 0, p.cell 1, p.cell 2, p.cell 3, q.cell 0, q.cell 1, q.cell 2, q.cell 3⟩))
      have HL := hide (fun (W W' : World) (h : Below w2.heap.size w2 W) (h' : Below W.heap.size W W') => HS.out W' (h.trans (h'.mono h.size)))
      have HT2 := hide (fun (W : World) (h : Below w2.heap.size w2 W) => HT.out W (HB2.out.trans (h.mono HB2.out.size)))
      have HU2 := hide (fun (W : World) (h : Below w2.heap.size w2 W) => HU.out W (HB2.out.trans (h.mono HB2.out.size)))
      clear HT HU HW HB HB1 HCA HCB HV1 HV2
      have hd : Below w2.heap.size w2 w2.drew := Below.drew (Below.refl w2.heap.size w2)
      have hs := HS.out _ hd
      go_region_held3 (fun W => Below w2.heap.size w2 W ∧ W.cell? ⟨w.heap.size, 0, none⟩ = some (.int .i64 T.kind) ∧ W.cell? ⟨w.heap.size, 1, none⟩ = some (.string T.cons) ∧ W.cell? ⟨w.heap.size, 2, none⟩ = some (.slice a1 T.text.length c1) ∧ W.cell? ⟨w.heap.size, 3, none⟩ = some (.slice a2 T.kids.length c2) ∧ W.cell? ⟨w.heap.size + 1, 0, none⟩ = some (.int .i64 U.kind) ∧ W.cell? ⟨w.heap.size + 1, 1, none⟩ = some (.string U.cons) ∧ W.cell? ⟨w.heap.size + 1, 2, none⟩ = some (.slice b1 U.text.length d1) ∧ W.cell? ⟨w.heap.size + 1, 3, none⟩ = some (.slice b2 U.kids.length d2)) (first | exact hs | exact HL.out _ _ hd hb | exact HL.out _ _ (And.left (by assumption)) hb)
        (first
          | (go_at_call 13; refine (HA.out _).mono ?_; rintro e w3 ⟨rfl, hb⟩)
          | (go_at_call 20; refine (same_any T T _ _ _ (HT2.out _ (And.left (by assumption))) (hvr.out)).mono ?_; rintro e w3 ⟨rfl, hb⟩)
          | (go_at_call 20; refine (same_any T U _ _ _ (HT2.out _ (And.left (by assumption))) (HU2.out _ (And.left (by assumption)))).mono ?_; rintro e w3 ⟨rfl, hb⟩)
          | (go_at_call 17; refine (rsame_any T U _ _ _ (HT2.out _ (And.left (by assumption))) (HU2.out _ (And.left (by assumption)))).mono ?_; rintro e w3 ⟨rfl, hb⟩)
          | (go_at_call 21; refine (copy_any T (by have := HC1.out; omega) _ _ (HT2.out _ (And.left (by assumption)))).mono ?_; rintro e w3 ⟨⟨v', rfl, hv'⟩, hb⟩; have hvr := hide (RTo.weak (fun _ _ => trivial) hv')))
      have hTT : sameB T T = true := (sameB_eq T T).2 rfl
      have hfin : Below w.heap.size w w3 := HB2.out.trans (Below.mono (And.left (by assumption)) HB2.out.size)
      rw [hTT]
      go_wp2_with fail
      go_ret
      exact ⟨rfl, hfin⟩
end Go.Proofs.Ytfndldfnlncabaa
