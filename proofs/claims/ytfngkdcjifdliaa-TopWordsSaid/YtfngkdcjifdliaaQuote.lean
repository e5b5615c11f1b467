/- The walk of words.Quote. -/
import Derived.Test.YtfngkdcjifdliaaBuilder
import Derived.Test.YtfngkdcjifdliaaWPlain
import Derived.Test.YtfngkdcjifdliaaWords
namespace Go.Proofs.Ytfngkdcjifdliaa
set_option linter.unnecessarySimpa false
set_option linter.deprecated false
open Go.RowKit
set_option linter.unusedVariables false
set_option linter.unusedSimpArgs false

def hexS : ByteArray := ⟨#[48, 49, 50, 51, 52, 53, 54, 55, 56, 57, 97, 98, 99, 100, 101, 102]⟩
theorem hexS_at : ∀ (q : Nat) (h : q < hexS.size), hexS[q] = hexD q
  | 0, _ | 1, _ | 2, _ | 3, _ | 4, _ | 5, _ | 6, _ | 7, _ | 8, _ | 9, _ | 10, _ | 11, _ | 12, _ | 13, _ | 14, _ | 15, _ => rfl
  | q + 16, h => absurd h (by show ¬ q + 16 < 16; omega)
theorem qb1 : qByte 34 = [92, 34] := by decide
theorem qb2 : qByte 92 = [92, 92] := by decide
theorem qb3 : qByte 10 = [92, 110] := by decide
theorem qb4 : qByte 9 = [92, 116] := by decide
theorem qb5 : qByte 13 = [92, 114] := by decide
theorem app_le {acc l : List UInt8} {N : Nat} (h : acc.length ≤ N) (M : Nat) (hl : l.length ≤ M) : (acc ++ l).length ≤ N + M := by
  rw [List.length_append]
  omega

set_option maxHeartbeats 2000000 in
theorem Quote_any (a : Option Addr) (c0 : Nat) (bs : List UInt8) (w : World) (hb : RB w a bs) (hn : bs.length ≤ 35184372084000) :
    Calls Try.prog 7 #[.slice a bs.length c0] w fun e w' => e = .returned (.string ⟨(quoteL bs).toArray⟩) ∧ Below w.heap.size w w' := by
  have HB := hide hb
  have hI0 := hide (BI.fresh w)
  clear hb
  go_enter Try.func7, Try.ntmps7
  go_wp2_with (go_at_call 14; refine (hI0.out.writeByte (by simp) 34 34 rfl).mono ?_)
  rintro e w1 ⟨rfl, hq, -⟩
  have HQ := hide hq
  clear hq
  go_wp2_with fail
  go_loopw [5, 9] (fun _ v9 wr => ∃ k : Nat, v9 = .int .i64 k ∧ k ≤ bs.length ∧ Hid (BI w w.heap.size (34 :: qBytes (bs.take k)) wr)) (fun _ v9 _ => bs.length - (intOf v9).toNat)
  case atStart => exact ⟨0, rfl, Nat.zero_le _, HQ.out⟩
  case round =>
    obtain ⟨k, rfl, hkl, hq⟩ := hrel
    have hlq := qBytes_len (bs.take k)
    have hla : (34 :: qBytes (bs.take k)).length ≤ 140737488340000 := by
      have : (bs.take k).length ≤ bs.length := List.length_take_le' _ _
      simp only [List.length_cons]
      omega
    have HLA := hide hla
    clear hlq hla
    by_cases hlt : k < bs.length
    · obtain ⟨b, o, rfl, hbl, hr⟩ := RB.get HB.out (by rintro rfl; simp at hlt)
      have hc : wr.cell? ⟨b, o + k, none⟩ = some (.int .u8 ((bs[k]).toNat : Int)) := by
        have := (hr.below hbl hq.out.2) k hlt
        simpa [hlt] using this
      have HT := hide (qBytes_take bs k hlt)
      have hlo : (0 : Int) ≤ ((bs[k]).toNat : Int) := by omega
      have hhi : ((bs[k]).toNat : Int) ≤ 255 := by have := (bs[k]).toNat_lt; omega
      generalize hcc : bs[k] = c at *
      clear hcc hbl hr
      by_cases k1 : c = 34
      · have HE : Hid (qByte c = [92, c]) := by subst k1; exact qb1
        have h34 : ((c.toNat : Int) == 34) = true := by subst k1; rfl
        clear k1
        go_wp2_with fail
        refine (hq.out.writeByte (Nat.le_trans HLA.out (by decide)) 92 92 rfl).mono ?_
        rintro e w2 ⟨rfl, hq2, -⟩
        have HQ2 := hide hq2
        clear hq2
        go_wp2_with fail
        refine (HQ2.out.writeByte (Nat.le_trans (app_le HLA.out 1 (Nat.le_refl _)) (by decide)) _ c rfl).mono ?_
        rintro e w3 ⟨rfl, hq3, -⟩
        have HQ3 := hide hq3
        clear hq3 HQ2
        go_wp2_with fail
        go_roundw
        case rel => exact ⟨k + 1, by go_num, by omega, by rw [HT.out, HE.out]; exact hide (by simpa using HQ3.out)⟩
        case measure => simp [intOf]; omega
      by_cases k2 : c = 92
      · have HE : Hid (qByte c = [92, c]) := by subst k2; exact qb2
        have h34 : ((c.toNat : Int) == 34) = false := by subst k2; rfl
        have h92 : ((c.toNat : Int) == 92) = true := by subst k2; rfl
        clear k1 k2
        go_wp2_with fail
        refine (hq.out.writeByte (Nat.le_trans HLA.out (by decide)) 92 92 rfl).mono ?_
        rintro e w2 ⟨rfl, hq2, -⟩
        have HQ2 := hide hq2
        clear hq2
        go_wp2_with fail
        refine (HQ2.out.writeByte (Nat.le_trans (app_le HLA.out 1 (Nat.le_refl _)) (by decide)) _ c rfl).mono ?_
        rintro e w3 ⟨rfl, hq3, -⟩
        have HQ3 := hide hq3
        clear hq3 HQ2
        go_wp2_with fail
        go_roundw
        case rel => exact ⟨k + 1, by go_num, by omega, by rw [HT.out, HE.out]; exact hide (by simpa using HQ3.out)⟩
        case measure => simp [intOf]; omega
      by_cases k3 : c = 10
      · have HE : Hid (qByte c = [92, 110]) := by subst k3; exact qb3
        have h34 : ((c.toNat : Int) == 34) = false := by subst k3; rfl
        have h92 : ((c.toNat : Int) == 92) = false := by subst k3; rfl
        have h10 : ((c.toNat : Int) == 10) = true := by subst k3; rfl
        clear k1 k2 k3
        go_wp2_with fail
        refine (hq.out.writeString ⟨#[92, 110]⟩ (Nat.le_trans (Nat.add_le_add_right HLA.out 2) (by decide))).mono ?_
        rintro e w2 ⟨rfl, hq2, -⟩
        have HQ2 := hide hq2
        clear hq2
        go_wp2_with fail
        go_roundw
        case rel => exact ⟨k + 1, by go_num, by omega, by rw [HT.out, HE.out]; exact HQ2.out⟩
        case measure => simp [intOf]; omega
      by_cases k4 : c = 9
      · have HE : Hid (qByte c = [92, 116]) := by subst k4; exact qb4
        have h34 : ((c.toNat : Int) == 34) = false := by subst k4; rfl
        have h92 : ((c.toNat : Int) == 92) = false := by subst k4; rfl
        have h10 : ((c.toNat : Int) == 10) = false := by subst k4; rfl
        have h9 : ((c.toNat : Int) == 9) = true := by subst k4; rfl
        clear k1 k2 k3 k4
        go_wp2_with fail
        refine (hq.out.writeString ⟨#[92, 116]⟩ (Nat.le_trans (Nat.add_le_add_right HLA.out 2) (by decide))).mono ?_
        rintro e w2 ⟨rfl, hq2, -⟩
        have HQ2 := hide hq2
        clear hq2
        go_wp2_with fail
        go_roundw
        case rel => exact ⟨k + 1, by go_num, by omega, by rw [HT.out, HE.out]; exact HQ2.out⟩
        case measure => simp [intOf]; omega
      by_cases k5 : c = 13
      · have HE : Hid (qByte c = [92, 114]) := by subst k5; exact qb5
        have h34 : ((c.toNat : Int) == 34) = false := by subst k5; rfl
        have h92 : ((c.toNat : Int) == 92) = false := by subst k5; rfl
        have h10 : ((c.toNat : Int) == 10) = false := by subst k5; rfl
        have h9 : ((c.toNat : Int) == 9) = false := by subst k5; rfl
        have h13 : ((c.toNat : Int) == 13) = true := by subst k5; rfl
        clear k1 k2 k3 k4 k5
        go_wp2_with fail
        refine (hq.out.writeString ⟨#[92, 114]⟩ (Nat.le_trans (Nat.add_le_add_right HLA.out 2) (by decide))).mono ?_
        rintro e w2 ⟨rfl, hq2, -⟩
        have HQ2 := hide hq2
        clear hq2
        go_wp2_with fail
        go_roundw
        case rel => exact ⟨k + 1, by go_num, by omega, by rw [HT.out, HE.out]; exact HQ2.out⟩
        case measure => simp [intOf]; omega
      have hne : ∀ x : UInt8, c ≠ x → ((c.toNat : Int) == (x.toNat : Int)) = false := fun x hx => by
        rw [beq_eq_false_iff_ne]
        intro e
        exact hx (UInt8.toNat_inj.1 (by omega))
      have h34 : ((c.toNat : Int) == 34) = false := hne 34 k1
      have h92 : ((c.toNat : Int) == 92) = false := hne 92 k2
      have h10 : ((c.toNat : Int) == 10) = false := hne 10 k3
      have h9 : ((c.toNat : Int) == 9) = false := hne 9 k4
      have h13 : ((c.toNat : Int) == 13) = false := hne 13 k5
      clear hne
      by_cases k6 : c.toNat < 32 ∨ 126 < c.toNat
      · have HE : Hid (qByte c = [92, 120, hexD (c.toNat / 16), hexD (c.toNat % 16)]) := by
          unfold qByte
          rw [if_neg k1, if_neg k2, if_neg k3, if_neg k4, if_neg k5, if_pos (by rw [UInt8.lt_iff_toNat_lt, UInt8.lt_iff_toNat_lt]; exact k6)]
          exact rfl
        clear k1 k2 k3 k4 k5
        have hd1 : c.toNat / 16 < hexS.size := by show _ < 16; have := c.toNat_lt; omega
        have hd2 : c.toNat % 16 < hexS.size := by show _ < 16; omega
        have HX1 := hide (hexS_at _ hd1)
        have HX2 := hide (hexS_at _ hd2)
        have hk6 : (c.toNat : Int) < 32 ∨ ¬ (c.toNat : Int) < 32 ∧ 126 < (c.toNat : Int) := by omega
        clear k6
        rcases hk6 with k6 | ⟨k6, k7⟩
        all_goals
          go_wp2_with fail
          refine (hq.out.writeString ⟨#[92, 120]⟩ (Nat.le_trans (Nat.add_le_add_right HLA.out 2) (by decide))).mono ?_
          rintro e w2 ⟨rfl, hq2, -⟩
          have HQ2 := hide hq2
          clear hq2
          go_wp2_with fail
          refine (HQ2.out.writeByte (Nat.le_trans (app_le HLA.out 2 (Nat.le_refl _)) (by decide)) _ _ rfl).mono ?_
          rintro e w3 ⟨rfl, hq3, -⟩
          have HQ3 := hide hq3
          clear hq3 HQ2
          go_wp2_with fail
          refine (HQ3.out.writeByte (Nat.le_trans (app_le (app_le HLA.out 2 (Nat.le_refl _)) 1 (Nat.le_refl _)) (by decide)) _ _ rfl).mono ?_
          rintro e w4 ⟨rfl, hq4, -⟩
          have HQ4 := hide hq4
          clear hq4 HQ3
          go_wp2_with fail
          go_roundw
          case rel =>
            refine ⟨k + 1, by go_num, by omega, ?_⟩
            have h : BI w w.heap.size (((34 :: qBytes (bs.take k)) ++ [92, 120]) ++ [hexS[c.toNat / 16]] ++ [hexS[c.toNat % 16]]) w4 := HQ4.out
            rw [HX1.out, HX2.out] at h
            rw [HT.out, HE.out]
            exact hide (by simpa using h)
          case measure => simp [intOf]; omega
      · have HE : Hid (qByte c = [c]) := by
          show qByte c = [c]
          unfold qByte
          rw [if_neg k1, if_neg k2, if_neg k3, if_neg k4, if_neg k5, if_neg (by rw [UInt8.lt_iff_toNat_lt, UInt8.lt_iff_toNat_lt]; exact k6)]
        clear k1 k2 k3 k4 k5
        have k7 : ¬ (c.toNat : Int) < 32 := by omega
        have k8 : ¬ 126 < (c.toNat : Int) := by omega
        clear k6
        go_wp2_with fail
        refine (hq.out.writeByte (Nat.le_trans HLA.out (by decide)) _ c rfl).mono ?_
        rintro e w2 ⟨rfl, hq2, -⟩
        have HQ2 := hide hq2
        clear hq2
        go_wp2_with fail
        go_roundw
        case rel => exact ⟨k + 1, by go_num, by omega, by rw [HT.out, HE.out]; exact HQ2.out⟩
        case measure => simp [intOf]; omega
    · have hk : k = bs.length := by omega
      subst hk
      go_wp2_with fail
      refine (hq.out.writeByte (Nat.le_trans HLA.out (by decide)) 34 34 rfl).mono ?_
      rintro e w2 ⟨rfl, hq2, -⟩
      have HQ2 := hide hq2
      clear hq2
      go_wp2_with fail
      refine HQ2.out.string.mono ?_
      rintro e w3 ⟨rfl, hb⟩
      go_wp2_with fail
      go_ret
      exact ⟨rfl, hb⟩
end Go.Proofs.Ytfngkdcjifdliaa
