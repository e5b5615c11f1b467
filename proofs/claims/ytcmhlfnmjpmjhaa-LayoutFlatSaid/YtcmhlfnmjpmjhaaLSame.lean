/- The law LayoutSame, walked. -/
import Derived.Test.YtcmhlfnmjpmjhaaAlive
import Derived.Test.YtcmhlfnmjpmjhaaPSame
set_option linter.unusedVariables false
set_option linter.unusedSimpArgs false
set_option linter.unnecessarySimpa false
set_option linter.deprecated false
namespace Go.Proofs.Ytcmhlfnmjpmjhaa
open Go.RowKit

theorem rd_one {W : World} {n1 n2 : Nat} {d : Dc} {a : Option Addr} {c : Nat} (h2 : Blk W n2 #[.int .i64 6, .string emptyB, .int .i64 0, .slice none 0 0, .int .i64 6, .string emptyB, .int .i64 0, .slice (some ⟨n1, 0, none⟩) 1 1] 24)
    (h1 : Blk W n1 #[.int .i64 d.kind, .string d.text, .int .i64 d.num, .slice a d.kids.length c] 24) (hd : RD W d (.agg #[.int .i64 d.kind, .string d.text, .int .i64 d.num, .slice a d.kids.length c])) :
    RD W (oneD d) (.agg #[.int .i64 6, .string emptyB, .int .i64 0, .slice (some ⟨n2, 0, none⟩) 2 2]) := by
  have c1 := h1.cell
  have c2 := h2.cell
  refine RDo.shut (by omega) (by decide) (by omega) ⟨by simp, fun _ => ⟨n2, 0, rfl, trivial, h2.lt, ?_⟩⟩ rfl
  refine RDos.of fun i hi => ?_
  match i, hi with
  | 0, _ => exact ⟨_, _, _, _, c2 0, c2 1, c2 2, c2 3, RDo.shut (by omega) (by decide) (by omega) RKo.nil rfl⟩
  | 1, _ =>
    refine ⟨_, _, _, _, c2 4, c2 5, c2 6, c2 7, RDo.shut (by omega) (by decide) (by omega) ⟨by simp, fun _ => ⟨n1, 0, rfl, trivial, h1.lt, ?_⟩⟩ rfl⟩
    refine RDos.of fun j hj => ?_
    match j, hj with
    | 0, _ => exact ⟨_, _, _, _, c1 0, c1 1, c1 2, c1 3, hd⟩
theorem rd_word (W : World) (t : ByteArray) (ht : t.size ≤ 140737488351232) : RD W (wordD t) (.agg #[.int .i64 1, .string t, .int .i64 0, .slice none 0 0]) := RDo.shut (by omega) ht (by omega) RKo.nil rfl
theorem rd_grp {W : World} {n : Nat} {t : ByteArray} (ht : t.size ≤ 140737488351232) (h : Blk W n #[.int .i64 1, .string t, .int .i64 0, .slice none 0 0] 24) : RD W (grpD t) (.agg #[.int .i64 5, .string emptyB, .int .i64 0, .slice (some ⟨n, 0, none⟩) 1 1]) := by
  have c1 := h.cell
  refine RDo.shut (by omega) (by decide) (by omega) ⟨by simp, fun _ => ⟨n, 0, rfl, trivial, h.lt, ?_⟩⟩ rfl
  refine RDos.of fun i hi => ?_
  match i, hi with
  | 0, _ => exact ⟨_, _, _, _, c1 0, c1 1, c1 2, c1 3, rd_word W t ht⟩
theorem three {w : World} {A B C : Array Value} : Blk (((w.alloc (.cells A 24)).alloc (.cells B 24)).alloc (.cells C 24)) w.heap.size A 24 ∧ Blk (((w.alloc (.cells A 24)).alloc (.cells B 24)).alloc (.cells C 24)) (w.heap.size + 1) B 24 ∧ Blk (((w.alloc (.cells A 24)).alloc (.cells B 24)).alloc (.cells C 24)) (w.heap.size + 2) C 24 ∧ Below w.heap.size w (((w.alloc (.cells A 24)).alloc (.cells B 24)).alloc (.cells C 24)) := by
  refine ⟨((Blk.new w _ _).alloc _).alloc _, ?_, ?_, (((Below.refl _ w).alloc (Nat.le_refl _) _).alloc (by simp) _).alloc (by simp; omega) _⟩
  · have := (Blk.new (w.alloc (.cells A 24)) B 24).alloc (.cells C 24)
    rw [World.size_alloc] at this
    exact this
  · have := Blk.new ((w.alloc (.cells A 24)).alloc (.cells B 24)) C 24
    rw [World.size_alloc, World.size_alloc] at this
    exact this
theorem cnt_one (d : Dc) : cnt (oneD d) = cnt d + 3 ∧ vol (oneD d) = vol d := by
  unfold oneD
  constructor
  · simp [cnt, cntL]; omega
  · simp [vol, volL, show emptyB.size = 0 from rfl]
theorem cnt_word (t : ByteArray) : cnt (wordD t) = 1 ∧ vol (wordD t) = t.size ∧ cnt (grpD t) = 2 ∧ vol (grpD t) = t.size := by
  unfold grpD wordD
  refine ⟨by simp [cnt, cntL], by simp [vol, volL], by simp [cnt, cntL], ?_⟩
  simp [vol, volL, show emptyB.size = 0 from rfl]

set_option maxHeartbeats 8000000 in
set_option maxRecDepth 100000 in
theorem law_same (d : Dc) (width : Int) (tx : ByteArray) (v : Value) (w : World) (hT : RD w d v) (hw : -9223372036854775808 ≤ width ∧ width ≤ 9223372036854775807) (htx : tx.size ≤ 140737488351232) :
    Calls Try.prog 4 #[v, .int .i64 width, .string tx] w fun e w' => e = .returned (.bool true) ∧ Below w.heap.size w w' := by
  obtain ⟨a2, c2, rfl, hkd, htt, hnn, hks⟩ := hT.open
  have HT := hide (fun W (h : Below w.heap.size w W) => RD.below h hT)
  have HKS := hide hks
  have hb0 := (Below.refl w.heap.size w).alloc (Nat.le_refl _) (.cells #[.int .i64 d.kind, .string d.text, .int .i64 d.num, .slice a2 d.kids.length c2] 24)
  have HB := hide hb0
  have HBX := hide (Blk.new w #[.int .i64 d.kind, .string d.text, .int .i64 d.num, .slice a2 d.kids.length c2] 24)
  have HH := hide (heavy_any d _ _ (HT.out _ hb0))
  have HA := hide (fun W => alive_any W)
  clear hT hks hb0
  go_enter Try.func4, Try.ntmps4
  cases hh : heavyB d with
  | true =>
    rw [hh] at HH
    go_wp2_with fail
    refine HH.out.mono ?_
    rintro e w1 ⟨rfl, h1⟩
    replace HB := hide (below_next HB.out h1)
    clear h1
    go_wp2_with fail
    refine (HA.out _).mono ?_
    rintro e w2 ⟨rfl, h2⟩
    replace HB := hide (below_next HB.out h2)
    clear h2
    go_wp2_with fail
    go_ret
    exact ⟨rfl, HB.out⟩
  | false =>
    rw [hh] at HH
    obtain ⟨hc7, hv7⟩ := of_heavy hh
    by_cases hl : (1000 : Int) < (tx.size : Int)
    · go_wp2_with fail
      refine HH.out.mono ?_
      rintro e w1 ⟨rfl, h1⟩
      replace HB := hide (below_next HB.out h1)
      clear h1
      go_wp2_with fail
      refine (HA.out _).mono ?_
      rintro e w2 ⟨rfl, h2⟩
      replace HB := hide (below_next HB.out h2)
      clear h2
      go_wp2_with fail
      go_ret
      exact ⟨rfl, HB.out⟩
    · obtain ⟨⟨s1, e1⟩, hr1⟩ : ∃ r, rendM d width = r := ⟨_, rfl⟩
      obtain ⟨⟨x1, g1⟩, hr2⟩ : ∃ r, rendM (wordD tx) width = r := ⟨_, rfl⟩
      have hr3 : rendM (grpD tx) width = (x1, g1) := by rw [← same_word]; exact hr2
      have HC1 := hide (fun W v h => Render_any d v width W h (by omega) (by omega) hw)
      have HC2 := hide (fun W v h => Render_any (oneD d) v width W h (by rw [(cnt_one d).1]; omega) (by rw [(cnt_one d).2]; omega) hw)
      have HC3 := hide (fun W v h => Render_any (wordD tx) v width W h (by rw [(cnt_word tx).1]; omega) (by rw [(cnt_word tx).2.1]; omega) hw)
      have HC4 := hide (fun W v h => Render_any (grpD tx) v width W h (by rw [(cnt_word tx).2.2.1]; omega) (by rw [(cnt_word tx).2.2.2]; omega) hw)
      have HC5 := hide (fun W v h => Right_any (oneD d) v W h (by rw [(cnt_one d).1]; omega))
      rw [hr1] at HC1
      rw [hr2] at HC3
      rw [hr3] at HC4
      have HS1 := hide (show rtB 200 (oneD d) = true → rendM (oneD d) width = (s1, e1) from fun h => by rw [← same_one d width h]; exact hr1)
      clear hr1 hr2 hr3 hc7 hv7 hh
      go_wp2_with fail
      refine HH.out.mono ?_
      rintro e w1 ⟨rfl, h1⟩
      replace HB := hide (below_next HB.out h1)
      replace HBX := hide (HBX.out.below h1)
      clear h1 HH
      have b0 := HBX.out.cell 0
      have b1 := HBX.out.cell 1
      have b2 := HBX.out.cell 2
      have b3 := HBX.out.cell 3
      have bl := HBX.out.lt
      go_wp2_with fail
      refine (HC1.out _ _ (HT.out _ HB.out)).mono ?_
      rintro e w2 ⟨rfl, h1⟩
      replace HB := hide (below_next HB.out h1)
      replace HBX := hide (HBX.out.below h1)
      clear h1 HC1 b0 b1 b2 b3 bl
      have b0 := HBX.out.cell 0
      have b1 := HBX.out.cell 1
      have b2 := HBX.out.cell 2
      have b3 := HBX.out.cell 3
      have bl := HBX.out.lt
      go_wp2_with fail
      have h3 := three (w := w2) (A := #[.int .i64 d.kind, .string d.text, .int .i64 d.num, .slice a2 d.kids.length c2]) (B := #[.int .i64 6, .string emptyB, .int .i64 0, .slice none 0 0, .int .i64 6, .string emptyB, .int .i64 0, .slice (some ⟨w2.heap.size, 0, none⟩) 1 1]) (C := #[.int .i64 6, .string emptyB, .int .i64 0, .slice (some ⟨w2.heap.size + 1, 0, none⟩) 2 2])
      replace HB := hide (below_next HB.out h3.2.2.2)
      have H9 := hide h3.2.2.1
      have HR9 := hide (rd_one h3.2.1 h3.1 (HT.out _ HB.out))
      clear h3 b0 b1 b2 b3 bl HBX
      refine (HC2.out _ _ HR9.out).mono ?_
      rintro e w3 ⟨rfl, h1⟩
      replace HB := hide (below_next HB.out h1)
      replace H9 := hide (H9.out.below h1)
      replace HR9 := hide (RD.below h1 HR9.out)
      clear h1 HC2
      have hb4 := (Below.refl w3.heap.size w3).alloc (Nat.le_refl _) (.cells #[.int .i64 1, .string tx, .int .i64 0, .slice none 0 0] 24)
      replace HB := hide (below_next HB.out hb4)
      replace H9 := hide (H9.out.below hb4)
      replace HR9 := hide (RD.below hb4 HR9.out)
      have H12 := hide (Blk.new w3 #[.int .i64 1, .string tx, .int .i64 0, .slice none 0 0] 24)
      clear hb4
      go_wp2_with fail
      refine (HC3.out _ _ (rd_word _ tx htx)).mono ?_
      rintro e w4 ⟨rfl, h1⟩
      replace HB := hide (below_next HB.out h1)
      replace H9 := hide (H9.out.below h1)
      replace HR9 := hide (RD.below h1 HR9.out)
      replace H12 := hide (H12.out.below h1)
      clear h1 HC3
      have hb5 := (Below.refl w4.heap.size w4).alloc (Nat.le_refl _) (.cells #[.int .i64 1, .string tx, .int .i64 0, .slice none 0 0] 24)
      have HG := hide (rd_grp (n := w4.heap.size) htx (Blk.new w4 #[.int .i64 1, .string tx, .int .i64 0, .slice none 0 0] 24))
      have z0 := H12.out.cell 0
      have z1 := H12.out.cell 1
      have z2 := H12.out.cell 2
      have z3 := H12.out.cell 3
      have zl := H12.out.lt
      replace HB := hide (below_next HB.out hb5)
      replace H9 := hide (H9.out.below hb5)
      replace HR9 := hide (RD.below hb5 HR9.out)
      clear hb5
      go_wp2_with fail
      refine (HC4.out _ _ HG.out).mono ?_
      rintro e w5 ⟨rfl, h1⟩
      replace HB := hide (below_next HB.out h1)
      replace H9 := hide (H9.out.below h1)
      replace HR9 := hide (RD.below h1 HR9.out)
      clear h1 HC4 HG z0 z1 z2 z3 zl H12
      have y0 := H9.out.cell 0
      have y1 := H9.out.cell 1
      have y2 := H9.out.cell 2
      have y3 := H9.out.cell 3
      have yl := H9.out.lt
      have hgg : (g1 != g1) = false := by simp
      go_wp2_with fail
      refine (HC5.out _ _ HR9.out).mono ?_
      rintro e w6 ⟨rfl, h1⟩
      replace HB := hide (below_next HB.out h1)
      clear h1 HC5 HR9 H9 y0 y1 y2 y3 yl hgg
      cases hr : rtB 200 (oneD d) with
      | false =>
        have hq : rendM (oneD d) width = (emptyB, 140) := by unfold rendM; rw [hr]; rfl
        rw [hq]
        clear hq HS1
        go_wp2_with fail
        refine (HA.out _).mono ?_
        rintro e w7 ⟨rfl, h1⟩
        replace HB := hide (below_next HB.out h1)
        clear h1
        go_wp2_with fail
        go_ret
        exact ⟨rfl, HB.out⟩
      | true =>
        have hq := HS1.out hr
        rw [hq]
        clear hq HS1
        go_wp2_with fail
        refine (HA.out _).mono ?_
        rintro e w7 ⟨rfl, h1⟩
        replace HB := hide (below_next HB.out h1)
        clear h1
        go_wp2_with fail
        go_ret
        exact ⟨rfl, HB.out⟩
end Go.Proofs.Ytcmhlfnmjpmjhaa
