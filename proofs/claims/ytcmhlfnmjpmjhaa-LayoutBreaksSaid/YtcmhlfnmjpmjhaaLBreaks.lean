/- The law LayoutBreaks, walked. -/
import Derived.Test.YtcmhlfnmjpmjhaaAlive
import Derived.Test.YtcmhlfnmjpmjhaaFlat
import Derived.Test.YtcmhlfnmjpmjhaaPSize
set_option linter.unusedVariables false
set_option linter.unusedSimpArgs false
set_option linter.unnecessarySimpa false
set_option linter.deprecated false
namespace Go.Proofs.Ytcmhlfnmjpmjhaa
open Go.RowKit

theorem c10_take (s : ByteArray) (k : Nat) (h : k < s.size) : c10 (s.data.toList.take (k + 1)) = c10 (s.data.toList.take k) + (if s[k]'h = 10 then 1 else 0) := by
  have e : s.data.toList.take (k + 1) = s.data.toList.take k ++ [s[k]'h] := by
    rw [List.take_succ_eq_append_getElem (by simpa using h)]
    simp
    rfl
  rw [e, c10_append]
  congr 1
  unfold c10
  rw [List.countP_cons, List.countP_nil]
  simp
theorem cntK_take (l : List Dc) (q : Int) (k : Nat) (h : k < l.length) : (l.take (k + 1)).countP (isK q) = (l.take k).countP (isK q) + (if l[k].kind = q then 1 else 0) := by
  rw [List.take_succ_eq_append_getElem h, List.countP_append, List.countP_cons, List.countP_nil]
  simp [isK]
theorem c10_le (s : List UInt8) : c10 s ≤ s.length := List.countP_le_length
/-- What holds between two rounds over leaves. -/
structure LeRel (w1 : World) (B : Nat) (l : List Dc) (v : Value) (k : Nat) (wr : World) : Prop where
  below : Below w1.heap.size w1 wr
  row : wr.ownsRow B 24 4 v l.length (lfC l)
  le : k ≤ l.length

set_option maxHeartbeats 8000000 in
set_option maxRecDepth 100000 in
theorem law_breaks (d : Dc) (width : Int) (v : Value) (w : World) (hT : RD w d v) (hw : -9223372036854775808 ≤ width ∧ width ≤ 9223372036854775807) :
    Calls Try.prog 7 #[v, .int .i64 width] w fun e w' => e = .returned (.bool true) ∧ Below w.heap.size w w' := by
  obtain ⟨a2, c2, rfl, hkd, htt, hnn, hks⟩ := hT.open
  have HT := hide (fun W (h : Below w.heap.size w W) => RD.below h hT)
  have hb0 := (Below.refl w.heap.size w).alloc (Nat.le_refl _) (.cells #[.int .i64 d.kind, .string d.text, .int .i64 d.num, .slice a2 d.kids.length c2] 24)
  have HB := hide hb0
  have HBX := hide (Blk.new w #[.int .i64 d.kind, .string d.text, .int .i64 d.num, .slice a2 d.kids.length c2] 24)
  have HH := hide (heavy_any d _ _ (HT.out _ hb0))
  have HA := hide (fun W => alive_any W)
  clear hT hks hb0
  go_enter Try.func7, Try.ntmps7
  cases hh : heavyB d with
  | true =>
    rw [hh] at HH
    go_wp2_with fail
    refine HH.out.mono ?_
    rintro e w1 ⟨rfl, h1⟩
    replace HB := hide (below_next HB.out h1)
    clear h1
    go_wp2_with fail
    refine (HA.out _).mono ?_
    rintro e w2 ⟨rfl, h2⟩
    replace HB := hide (below_next HB.out h2)
    clear h2
    go_wp2_with fail
    go_ret
    exact ⟨rfl, HB.out⟩
  | false =>
    rw [hh] at HH
    obtain ⟨hc7, hv7⟩ := of_heavy hh
    obtain ⟨⟨s, e1⟩, hr1⟩ : ∃ r, rendM d width = r := ⟨_, rfl⟩
    have HF := hide hr1
    have HC1 := hide (fun W v h => Render_any d v width W h (by omega) (by omega) hw)
    have HV := hide (fun W v h => Leaves_any d (by omega) v W h)
    obtain ⟨l, hl⟩ : ∃ l, leafs d = l := ⟨_, rfl⟩
    have HLN := hide (show l.length ≤ 700 by rw [← hl]; have := leafs_len d; omega)
    have HL := hide hl
    rw [hr1] at HC1
    rw [hl] at HV
    clear hr1 hc7 hv7 hh hl
    go_wp2_with fail
    refine HH.out.mono ?_
    rintro e w1 ⟨rfl, h1⟩
    replace HB := hide (below_next HB.out h1)
    replace HBX := hide (HBX.out.below h1)
    clear h1 HH
    have b0 := HBX.out.cell 0
    have b1 := HBX.out.cell 1
    have b2 := HBX.out.cell 2
    have b3 := HBX.out.cell 3
    have bl := HBX.out.lt
    go_wp2_with fail
    refine (HC1.out _ _ (HT.out _ HB.out)).mono ?_
    rintro e w2 ⟨rfl, h1⟩
    replace HB := hide (below_next HB.out h1)
    replace HBX := hide (HBX.out.below h1)
    clear h1 HC1 b0 b1 b2 b3 bl
    by_cases he : e1 = 0
    · subst he
      obtain ⟨hlo, hhi⟩ := breaks_some d width s HF.out
      rw [HL.out] at hlo hhi
      have hsz := rend_size HF.out
      obtain ⟨N, hN⟩ : ∃ N, c10 s.data.toList = N := ⟨_, rfl⟩
      have HNN := hide hN
      have hNs : N ≤ 65536 := by rw [← hN]; have := c10_le s.data.toList; rw [size_len] at this; omega
      rw [hN] at hlo hhi
      have HLO := hide hlo
      have HHI := hide hhi
      clear hlo hhi hN
      go_wp2_with fail
      go_loopg [7, 8] s.size (fun u v7 v8 wr => ∃ k : Nat, Hid (u = s.size - k) ∧ v8 = .int .i64 (k : Int) ∧ v7 = .int .i64 (c10 (s.data.toList.take k) : Int) ∧ k ≤ s.size ∧ wr = w2)
      case atStart => exact ⟨0, rfl, rfl, rfl, Nat.zero_le _, rfl⟩
      case round =>
        obtain ⟨k, hm, rfl, rfl, hle, hwr⟩ := hrel
        have hwr2 := hwr.symm
        clear hwr
        subst hwr2
        by_cases hk : k < s.size
        · have hki : (k : Int) < (s.size : Int) := by omega
          obtain ⟨c, hc⟩ : ∃ c, s[k]'hk = c := ⟨_, rfl⟩
          have HST := hide (c10_take s k hk)
          rw [hc] at HST
          obtain ⟨q, hq⟩ : ∃ q, c10 (s.data.toList.take k) = q := ⟨_, rfl⟩
          have hqb : q ≤ 65536 := by rw [← hq]; have h1 := c10_le (s.data.toList.take k); have h2 := List.length_take_le k s.data.toList; omega
          rw [hq] at HST ⊢
          clear hq
          by_cases k1 : c = 10
          · subst k1
            rw [if_pos rfl] at HST
            go_wp2_with fail
            go_roundg (s.size - (k + 1))
            case measure => rw [hm.out]; omega
            case rel => exact ⟨k + 1, rfl, rfl, by rw [HST.out]; rfl, hk, rfl⟩
          · have m1 : ((c.toNat : Int) == 10) = false := byte_ne (x := 10) k1
            rw [if_neg k1] at HST
            go_wp2_with fail
            go_roundg (s.size - (k + 1))
            case measure => rw [hm.out]; omega
            case rel => exact ⟨k + 1, rfl, rfl, by rw [HST.out]; rfl, hk, rfl⟩
        · obtain rfl : k = s.size := by omega
          have hki : ¬ (s.size : Int) < (s.size : Int) := by omega
          have htk : s.data.toList.take s.size = s.data.toList := List.take_of_length_le (by rw [size_len]; omega)
          rw [htk, HNN.out]
          clear htk
          have b0 := HBX.out.cell 0
          have b1 := HBX.out.cell 1
          have b2 := HBX.out.cell 2
          have b3 := HBX.out.cell 3
          have bl := HBX.out.lt
          go_wp2_with fail
          refine (HV.out _ _ (HT.out _ HB.out)).mono ?_
          rintro e w3 ⟨vL, rfl, hp⟩
          obtain ⟨aL, cL, rfl, _⟩ := own_shape hp.out.1
          replace HB := hide (below_next HB.out hp.out.2)
          have HR0 := hide (show LeRel w3 w2.heap.size l (.slice aL l.length cL) 0 w3 from ⟨Below.refl _ _, hp.out.1, Nat.zero_le _⟩)
          clear hp b0 b1 b2 b3 bl HBX HT HV
          go_wp2_with fail
          go_loopg [9, 10, 12] l.length (fun u v9 v10 v12 wq => ∃ k : Nat, Hid (u = l.length - k) ∧ v12 = .int .i64 (k : Int) ∧ v9 = .int .i64 ((l.take k).countP (isK 3) : Int) ∧ v10 = .int .i64 ((l.take k).countP (isK 2) : Int) ∧ k ≤ l.length ∧ wq = w3)
          case atStart => exact ⟨0, rfl, rfl, rfl, rfl, Nat.zero_le _, rfl⟩
          case round =>
            obtain ⟨k, hm, rfl, rfl, rfl, hle, hwr⟩ := hrel
            have hwr2 := hwr.symm
            clear hwr
            subst hwr2
            have hln := HLN.out
            by_cases hlt : k < l.length
            · have hlti : (k : Int) < (l.length : Int) := by omega
              obtain ⟨aL', cL', e9, hat⟩ := own_shape HR0.out.row
              obtain ⟨rfl, rfl⟩ : aL = aL' ∧ cL = cL' := by injection e9 with e1 _ e2; exact ⟨e1, e2⟩
              obtain ⟨g, rfl, hBg, hgl, hcell⟩ := hat (by omega)
              obtain ⟨y0, y1, y2, y3⟩ := lfC_get l k hlt
              have z0 := hcell _ _ y0
              have HS3 := hide (cntK_take l 3 k hlt)
              have HS2 := hide (cntK_take l 2 k hlt)
              obtain ⟨kk, hkk⟩ : ∃ x, l[k].kind = x := ⟨_, rfl⟩
              rw [hkk] at z0 HS3 HS2
              obtain ⟨q3, hq3⟩ : ∃ q, (l.take k).countP (isK 3) = q := ⟨_, rfl⟩
              obtain ⟨q2, hq2⟩ : ∃ q, (l.take k).countP (isK 2) = q := ⟨_, rfl⟩
              have hb3 : q3 ≤ 700 := by rw [← hq3]; have h1 : (l.take k).countP (isK 3) ≤ (l.take k).length := List.countP_le_length; rw [List.length_take] at h1; omega
              have hb2 : q2 ≤ 700 := by rw [← hq2]; have h1 : (l.take k).countP (isK 2) ≤ (l.take k).length := List.countP_le_length; rw [List.length_take] at h1; omega
              rw [hq3] at HS3 ⊢
              rw [hq2] at HS2 ⊢
              clear y0 y1 y2 y3 hcell hat e9 hkk hq3 hq2
              by_cases k3 : kk = 3
              · subst k3
                rw [if_pos rfl] at HS3
                rw [if_neg (by decide)] at HS2
                go_wp2_with fail
                go_roundg (l.length - (k + 1))
                case measure => rw [hm.out]; omega
                case rel => exact ⟨k + 1, rfl, by go_num, by rw [HS3.out]; rfl, by rw [HS2.out]; rfl, hlt, rfl⟩
              · have m3 : (kk == 3) = false := by rw [beq_eq_false_iff_ne]; exact k3
                rw [if_neg k3] at HS3
                by_cases k2 : kk = 2
                · subst k2
                  rw [if_pos rfl] at HS2
                  go_wp2_with fail
                  go_roundg (l.length - (k + 1))
                  case measure => rw [hm.out]; omega
                  case rel => exact ⟨k + 1, rfl, by go_num, by rw [HS3.out]; rfl, by rw [HS2.out]; rfl, hlt, rfl⟩
                · have m2 : (kk == 2) = false := by rw [beq_eq_false_iff_ne]; exact k2
                  rw [if_neg k2] at HS2
                  go_wp2_with fail
                  go_roundg (l.length - (k + 1))
                  case measure => rw [hm.out]; omega
                  case rel => exact ⟨k + 1, rfl, by go_num, by rw [HS3.out]; rfl, by rw [HS2.out]; rfl, hlt, rfl⟩
            · obtain rfl : k = l.length := by omega
              rw [List.take_length]
              obtain ⟨q3, hq3⟩ : ∃ q, l.countP (isK 3) = q := ⟨_, rfl⟩
              obtain ⟨q2, hq2⟩ : ∃ q, l.countP (isK 2) = q := ⟨_, rfl⟩
              have hb3 : q3 ≤ 700 := by rw [← hq3]; have h1 : l.countP (isK 3) ≤ l.length := List.countP_le_length; omega
              have hb2 : q2 ≤ 700 := by rw [← hq2]; have h1 : l.countP (isK 2) ≤ l.length := List.countP_le_length; omega
              have hlo := HLO.out
              have hhi := HHI.out
              rw [hq3] at hlo hhi ⊢
              rw [hq2] at hhi ⊢
              have g1 : (q3 : Int) ≤ (N : Int) := by omega
              have g2 : (N : Int) ≤ (q3 : Int) + (q2 : Int) := by omega
              clear hq3 hq2 hlo hhi
              go_wp2_with fail
              refine (HA.out _).mono ?_
              rintro e w4 ⟨rfl, h1⟩
              replace HB := hide (below_next HB.out h1)
              clear h1
              go_wp2_with fail
              go_ret
              exact ⟨by simp [g1, g2], HB.out⟩
    · have m1 : (e1 == 0) = false := by rw [beq_eq_false_iff_ne]; exact he
      have m2 : (e1 != 0) = true := by rw [bne, m1]; rfl
      obtain rfl := rend_bad HF.out he
      go_wp2_with fail
      refine (HA.out _).mono ?_
      rintro e w5 ⟨rfl, h1⟩
      replace HB := hide (below_next HB.out h1)
      clear h1
      go_wp2_with fail
      go_ret
      exact ⟨rfl, HB.out⟩
end Go.Proofs.Ytcmhlfnmjpmjhaa
