/- The law LayoutTexts, walked. -/
import Derived.Test.YtcmhlfnmjpmjhaaAlive
import Derived.Test.YtcmhlfnmjpmjhaaFlat
import Derived.Test.YtcmhlfnmjpmjhaaPSize
import Derived.Test.YtcmhlfnmjpmjhaaWout
set_option linter.unusedVariables false
set_option linter.unusedSimpArgs false
set_option linter.unnecessarySimpa false
set_option linter.deprecated false
namespace Go.Proofs.Ytcmhlfnmjpmjhaa
open Go.RowKit

/-- What holds between two rounds: what is wanted so far. -/
structure TxRel (w : World) (B : Nat) (l : List Dc) (v : Value) (k : Nat) (x : ByteArray) (wr : World) : Prop where
  below : Below w.heap.size w wr
  row : wr.ownsRow B 24 4 v l.length (lfC l)
  le : k ≤ l.length
  want : x.data.toList = (l.take k).flatMap fun y => wo (ltx y)
  blk : ∀ j (h : j < l.length), j < k → l[j].kind = 2 → wo (ltx l[j]) = []
theorem TxRel.next {w : World} {B : Nat} {l : List Dc} {v : Value} {k : Nat} {x : ByteArray} {wr w2 : World} (h : TxRel w B l v k x wr) (hk : k < l.length) (hb : Below wr.heap.size wr w2) (hx : l[k].kind = 2 → wo (ltx l[k]) = []) : TxRel w B l v (k + 1) (x ++ ⟨(wo l[k].text.data.toList).toArray⟩) w2 := by
  refine ⟨below_next h.below hb, own_below h.row hb, hk, ?_, fun j hj hjk => ?_⟩
  · rw [List.take_succ_eq_append_getElem hk, List.flatMap_append, ← h.want]
    simp [ltx]
  · by_cases hjk2 : j < k
    · exact h.blk j hj hjk2
    · obtain rfl : j = k := by omega
      exact hx
theorem TxRel.fin {w : World} {B : Nat} {l : List Dc} {v : Value} {x : ByteArray} {wr : World} (h : TxRel w B l v l.length x wr) {d : Dc} (hl : leafs d = l) {width : Int} {s : ByteArray} (hs : rendM d width = (s, 0)) : (⟨(wo s.data.toList).toArray⟩ : ByteArray) = x := by
  have h1 := texts_same d width s hs (by
    rw [hl]
    intro y hy hk
    obtain ⟨j, hj, rfl⟩ := List.mem_iff_getElem.1 hy
    exact h.blk j hj hj hk)
  have h2 := h.want
  rw [List.take_length] at h2
  rw [hl, ← h2] at h1
  apply WideShapes.bytes_inj
  simpa using h1
theorem TxRel.len {w : World} {B : Nat} {l : List Dc} {v : Value} {k : Nat} {x : ByteArray} {wr : World} (h : TxRel w B l v k x wr) (hv : (l.flatMap ltx).length ≤ 20000) : x.size ≤ 20000 := by
  have h1 : x.size = x.data.toList.length := by simp
  rw [h1, h.want, ← wo_flatMap]
  have h2 := flatMap_take l k
  have h3 : (wo ((l.take k).flatMap ltx)).length ≤ ((l.take k).flatMap ltx).length := by unfold wo; exact List.length_filter_le _ _
  omega

set_option maxHeartbeats 8000000 in
set_option maxRecDepth 100000 in
theorem law_texts (d : Dc) (wa wb : Int) (v : Value) (w : World) (hT : RD w d v) (hwa : -9223372036854775808 ≤ wa ∧ wa ≤ 9223372036854775807) (hwb : -9223372036854775808 ≤ wb ∧ wb ≤ 9223372036854775807) :
    Calls Try.prog 6 #[v, .int .i64 wa, .int .i64 wb] w fun e w' => e = .returned (.bool true) ∧ Below w.heap.size w w' := by
  obtain ⟨a2, c2, rfl, hkd, htt, hnn, hks⟩ := hT.open
  have HT := hide (fun W (h : Below w.heap.size w W) => RD.below h hT)
  have hb0 := (Below.refl w.heap.size w).alloc (Nat.le_refl _) (.cells #[.int .i64 d.kind, .string d.text, .int .i64 d.num, .slice a2 d.kids.length c2] 24)
  have HB := hide hb0
  have HBX := hide (Blk.new w #[.int .i64 d.kind, .string d.text, .int .i64 d.num, .slice a2 d.kids.length c2] 24)
  have HH := hide (heavy_any d _ _ (HT.out _ hb0))
  have HA := hide (fun W => alive_any W)
  clear hT hks hb0
  go_enter Try.func6, Try.ntmps6
  cases hh : heavyB d with
  | true =>
    rw [hh] at HH
    go_wp2_with fail
    refine HH.out.mono ?_
    rintro e w1 ⟨rfl, h1⟩
    replace HB := hide (below_next HB.out h1)
    clear h1
    go_wp2_with fail
    refine (HA.out _).mono ?_
    rintro e w2 ⟨rfl, h2⟩
    replace HB := hide (below_next HB.out h2)
    clear h2
    go_wp2_with fail
    go_ret
    exact ⟨rfl, HB.out⟩
  | false =>
    rw [hh] at HH
    obtain ⟨hc7, hv7⟩ := of_heavy hh
    obtain ⟨⟨s, e1⟩, hr1⟩ : ∃ r, rendM d wa = r := ⟨_, rfl⟩
    obtain ⟨⟨t, e2⟩, hr2⟩ : ∃ r, rendM d wb = r := ⟨_, rfl⟩
    have HF1 := hide hr1
    have HF2 := hide hr2
    have HC1 := hide (fun W v h => Render_any d v wa W h (by omega) (by omega) hwa)
    have HC2 := hide (fun W v h => Render_any d v wb W h (by omega) (by omega) hwb)
    have HV := hide (fun W v h => Leaves_any d (by omega) v W h)
    obtain ⟨l, hl⟩ : ∃ l, leafs d = l := ⟨_, rfl⟩
    have HLN := hide (show l.length ≤ 700 by rw [← hl]; have := leafs_len d; omega)
    have HLV := hide (show (l.flatMap ltx).length ≤ 20000 by rw [← hl]; have := leafs_vol d; omega)
    have HL := hide hl
    rw [hr1] at HC1
    rw [hr2] at HC2
    rw [hl] at HV
    clear hr1 hr2 hc7 hv7 hh hl
    go_wp2_with fail
    refine HH.out.mono ?_
    rintro e w1 ⟨rfl, h1⟩
    replace HB := hide (below_next HB.out h1)
    replace HBX := hide (HBX.out.below h1)
    clear h1 HH
    have b0 := HBX.out.cell 0
    have b1 := HBX.out.cell 1
    have b2 := HBX.out.cell 2
    have b3 := HBX.out.cell 3
    have bl := HBX.out.lt
    go_wp2_with fail
    refine (HC1.out _ _ (HT.out _ HB.out)).mono ?_
    rintro e w2 ⟨rfl, h1⟩
    replace HB := hide (below_next HB.out h1)
    replace HBX := hide (HBX.out.below h1)
    clear h1 HC1 b0 b1 b2 b3 bl
    have b0 := HBX.out.cell 0
    have b1 := HBX.out.cell 1
    have b2 := HBX.out.cell 2
    have b3 := HBX.out.cell 3
    have bl := HBX.out.lt
    go_wp2_with fail
    refine (HC2.out _ _ (HT.out _ HB.out)).mono ?_
    rintro e w3 ⟨rfl, h1⟩
    replace HB := hide (below_next HB.out h1)
    replace HBX := hide (HBX.out.below h1)
    clear h1 HC2 b0 b1 b2 b3 bl
    by_cases he1 : e1 = 0
    · by_cases he2 : e2 = 0
      · subst he1 he2
        have HSZ1 := hide (rend_size HF1.out)
        have HSZ2 := hide (rend_size HF2.out)
        have b0 := HBX.out.cell 0
        have b1 := HBX.out.cell 1
        have b2 := HBX.out.cell 2
        have b3 := HBX.out.cell 3
        have bl := HBX.out.lt
        go_wp2_with fail
        refine (HV.out _ _ (HT.out _ HB.out)).mono ?_
        rintro e w4 ⟨vL, rfl, hp⟩
        obtain ⟨aL, cL, rfl, _⟩ := own_shape hp.out.1
        have HR0 := hide (show TxRel w w3.heap.size l (.slice aL l.length cL) 0 emptyB w4 from ⟨below_next HB.out hp.out.2, hp.out.1, Nat.zero_le _, by rw [List.take_zero]; rfl, fun j _ h => absurd h (Nat.not_lt_zero _)⟩)
        clear hp b0 b1 b2 b3 bl HBX HT HV HB
        go_wp2_with fail
        go_loopg [11, 13] l.length (fun u v11 v13 wr => ∃ (k : Nat) (x : ByteArray), Hid (u = l.length - k) ∧ v13 = .int .i64 (k : Int) ∧ v11 = .string x ∧ Hid (TxRel w w3.heap.size l (.slice aL l.length cL) k x wr))
        case atStart => exact ⟨0, emptyB, rfl, rfl, rfl, HR0⟩
        case round =>
          obtain ⟨k, x, hm, rfl, rfl, hr⟩ := hrel
          have hln := HLN.out
          have hle := hr.out.le
          have hxs := hr.out.len HLV.out
          by_cases hlt : k < l.length
          · have hlti : (k : Int) < (l.length : Int) := by omega
            obtain ⟨aL', cL', e9, hat⟩ := own_shape hr.out.row
            obtain ⟨rfl, rfl⟩ : aL = aL' ∧ cL = cL' := by injection e9 with e1 _ e2; exact ⟨e1, e2⟩
            obtain ⟨g, rfl, hBg, hgl, hcell⟩ := hat (by omega)
            obtain ⟨y0, y1, y2, y3⟩ := lfC_get l k hlt
            have z0 := hcell _ _ y0
            have z1 := hcell _ _ y1
            have HCE := hide (fun W (h : Below wr.heap.size wr W) => (h.cell (p := ⟨g, k * 4 + 1, none⟩) hgl).trans z1)
            have HTS := hide (show l[k].text.size ≤ 1000000000 by
              have h1 := flatMap_snoc l k hlt
              have h2 := flatMap_take l (k + 1)
              have h3 := congrArg List.length h1
              rw [List.length_append, size_len] at h3
              have := HLV.out; omega)
            have HNX := hide (fun w2 (h : Below wr.heap.size wr w2) (hx : l[k].kind = 2 → wo (ltx l[k]) = []) => hr.out.next hlt h hx)
            have HBW := hide hr.out.below
            have HWO := hide (fun W => without_any l[k].text W HTS.out)
            obtain ⟨tx, htx⟩ : ∃ t, l[k].text = t := ⟨_, rfl⟩
            obtain ⟨kk, hkk⟩ : ∃ t, l[k].kind = t := ⟨_, rfl⟩
            have hlw : wo (ltx l[k]) = wo tx.data.toList := by unfold ltx; rw [htx]
            rw [hkk, hlw] at HNX
            rw [htx] at z1 HCE HTS HNX HWO
            rw [hkk] at z0
            obtain ⟨u, hu⟩ : ∃ u : ByteArray, ⟨(wo tx.data.toList).toArray⟩ = u := ⟨_, rfl⟩
            have hul : wo tx.data.toList = u.data.toList := by rw [← hu]
            have HUS := hide (show u.size ≤ 1000000000 by
              have h1 : (wo tx.data.toList).length ≤ tx.data.toList.length := by unfold wo; exact List.length_filter_le _ _
              rw [hul, size_len, size_len] at h1
              have := HTS.out; omega)
            rw [hu] at HWO HNX
            rw [hul] at HNX
            have hus := HUS.out
            clear y0 y1 y2 y3 hcell hat e9 hkk htx hlw hu hul hr
            by_cases k2 : kk = 2
            · subst k2
              by_cases hu0 : u.data.toList = []
              · have hu0' := hu0
                rw [← ByteArray.toList_eq] at hu0'
                have HU0 := hide hu0
                clear hu0
                go_wp2_with fail
                refine (HWO.out _).mono ?_
                rintro e w5 ⟨rfl, h1⟩
                have HB1 := hide h1
                have z1' := HCE.out _ h1
                have gl' := Nat.lt_of_lt_of_le hgl h1.size
                clear h1 z0 z1 HCE
                go_wp2_with fail
                refine (HWO.out _).mono ?_
                rintro e w6 ⟨rfl, h1⟩
                have HN := hide (HNX.out _ (HB1.out.trans (h1.mono HB1.out.size)) (fun _ => HU0.out))
                clear h1
                go_wp2_with fail
                go_roundg (l.length - (k + 1))
                case measure => rw [hm.out]; omega
                case rel => exact ⟨k + 1, _, rfl, by go_num, rfl, HN⟩
              · have hu0' : u.toList.isEmpty = false := by rw [ByteArray.toList_eq]; simpa using hu0
                clear hu0
                go_wp2_with fail
                refine (HWO.out _).mono ?_
                rintro e w5 ⟨rfl, h1⟩
                have HB1 := hide (below_next HBW.out h1)
                clear h1 z0 z1 HCE
                go_wp2_with fail
                refine (HA.out _).mono ?_
                rintro e w6 ⟨rfl, h1⟩
                replace HB1 := hide (below_next HB1.out h1)
                clear h1
                go_wp2_with fail
                go_ret
                exact ⟨rfl, HB1.out⟩
            · have m2 : (kk == 2) = false := by rw [beq_eq_false_iff_ne]; exact k2
              go_wp2_with fail
              refine (HWO.out _).mono ?_
              rintro e w6 ⟨rfl, h1⟩
              have HN := hide (HNX.out _ h1 (fun h => absurd h k2))
              clear h1
              go_wp2_with fail
              go_roundg (l.length - (k + 1))
              case measure => rw [hm.out]; omega
              case rel => exact ⟨k + 1, _, rfl, by go_num, rfl, HN⟩
          · obtain rfl : k = l.length := by omega
            have HW1 := hide (fun W => without_any s W (by have := HSZ1.out; omega))
            have HW2 := hide (fun W => without_any t W (by have := HSZ2.out; omega))
            rw [hr.out.fin HL.out HF1.out] at HW1
            rw [hr.out.fin HL.out HF2.out] at HW2
            have HB := hide hr.out.below
            clear hr HF1 HF2
            go_wp2_with fail
            refine (HA.out _).mono ?_
            rintro e w5 ⟨rfl, h1⟩
            replace HB := hide (below_next HB.out h1)
            clear h1
            go_wp2_with fail
            refine (HW1.out _).mono ?_
            rintro e w6 ⟨rfl, h1⟩
            replace HB := hide (below_next HB.out h1)
            clear h1
            go_wp2_with fail
            refine (HW2.out _).mono ?_
            rintro e w7 ⟨rfl, h1⟩
            replace HB := hide (below_next HB.out h1)
            clear h1
            go_wp2_with fail
            go_ret
            exact ⟨rfl, HB.out⟩
      · have m1 : (e2 == 0) = false := by rw [beq_eq_false_iff_ne]; exact he2
        have m2 : (e2 != 0) = true := by rw [bne, m1]; rfl
        subst he1
        go_wp2_with fail
        refine (HA.out _).mono ?_
        rintro e w5 ⟨rfl, h1⟩
        replace HB := hide (below_next HB.out h1)
        clear h1
        go_wp2_with fail
        go_ret
        exact ⟨rfl, HB.out⟩
    · have m1 : (e1 == 0) = false := by rw [beq_eq_false_iff_ne]; exact he1
      have m2 : (e1 != 0) = true := by rw [bne, m1]; rfl
      obtain rfl := rend_bad HF1.out he1
      go_wp2_with fail
      refine (HA.out _).mono ?_
      rintro e w5 ⟨rfl, h1⟩
      replace HB := hide (below_next HB.out h1)
      clear h1
      go_wp2_with fail
      go_ret
      exact ⟨rfl, HB.out⟩
end Go.Proofs.Ytcmhlfnmjpmjhaa
