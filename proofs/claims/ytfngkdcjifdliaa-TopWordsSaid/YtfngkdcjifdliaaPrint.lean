/- The walks of sign and Print. -/
import Derived.Test.YtfngkdcjifdliaaRuns
import Derived.Test.YtfngkdcjifdliaaQuote
import Derived.WideShapes
set_option linter.unusedVariables false
set_option linter.unusedSimpArgs false
set_option linter.unnecessarySimpa false
set_option linter.deprecated false
namespace Go.Proofs.Ytfngkdcjifdliaa
open Go.RowKit

theorem below_drewN {B : Nat} {w W : World} (h : Below B w W) (n : Nat) : Below B w (W.drewN n) := ⟨h.os, h.tape, h.output, h.size, h.block⟩
/-- How a byte is written in a set. -/
def signL (b : Nat) : List UInt8 :=
  if b = 10 then [92, 110] else if b = 9 then [92, 116] else if b = 13 then [92, 114] else if b = 32 then [92, 115]
  else if b = 91 ∨ b = 93 ∨ b = 92 ∨ b = 45 ∨ b = 94 then [92, UInt8.ofNat b]
  else if 32 < b ∧ b < 127 then [UInt8.ofNat b] else [92, 120, hexD (b / 16), hexD (b % 16)]
theorem signL_len (b : Nat) : (signL b).length ≤ 4 := by
  unfold signL
  repeat' split
  all_goals simp
theorem hexS_cut : ∀ q, q < 16 → hexS.extract q (q + 1) = ⟨#[hexD q]⟩
  | 0, _ | 1, _ | 2, _ | 3, _ | 4, _ | 5, _ | 6, _ | 7, _ | 8, _ | 9, _ | 10, _ | 11, _ | 12, _ | 13, _ | 14, _ | 15, _ => by decide +kernel
  | q + 16, h => by omega

set_option maxHeartbeats 2000000 in
set_option maxRecDepth 100000 in
theorem sign_any (b : Nat) (hb : b < 256) (w : World) : Calls Try.prog 13 #[.int .u8 (b : Int)] w fun e w' => e = .returned (.string ⟨(signL b).toArray⟩) ∧ Below w.heap.size w w' := by
  have HB := hide (Below.refl w.heap.size w)
  by_cases k1 : b = 10
  · subst k1
    go_enter Try.func13, Try.ntmps13
    go_wp2_with fail
    go_ret
    exact ⟨rfl, HB.out⟩
  by_cases k2 : b = 9
  · subst k2
    go_enter Try.func13, Try.ntmps13
    go_wp2_with fail
    go_ret
    exact ⟨rfl, HB.out⟩
  by_cases k3 : b = 13
  · subst k3
    go_enter Try.func13, Try.ntmps13
    go_wp2_with fail
    go_ret
    exact ⟨rfl, HB.out⟩
  by_cases k4 : b = 32
  · subst k4
    go_enter Try.func13, Try.ntmps13
    go_wp2_with fail
    go_ret
    exact ⟨rfl, HB.out⟩
  have m1 : ((b : Int) == 10) = false := by rw [beq_eq_false_iff_ne]; omega
  have m2 : ((b : Int) == 9) = false := by rw [beq_eq_false_iff_ne]; omega
  have m3 : ((b : Int) == 13) = false := by rw [beq_eq_false_iff_ne]; omega
  have m4 : ((b : Int) == 32) = false := by rw [beq_eq_false_iff_ne]; omega
  have hcv : (convert 25 9 (.slice (some ⟨w.heap.size, 0, none⟩) 1 1)).run Try.prog (w.alloc (.cells #[.int .u8 (b : Int)] 5)) = .ok (.string ⟨#[UInt8.ofNat b]⟩) (w.alloc (.cells #[.int .u8 (b : Int)] 5)) := by
    refine run_convert_bytes_back (w.alloc (.cells #[.int .u8 (b : Int)] 5)) 25 9 5 ⟨w.heap.size, 0, none⟩ 1 [UInt8.ofNat b] Try.underlying25 Try.underlying5 Try.underlying9 fun j hj => ?_
    have hj0 : j = 0 := by simp at hj; omega
    subst hj0
    rw [add_mk, (Blk.new w #[.int .u8 (b : Int)] 5).cell]
    simp
    omega
  have HB1 := hide ((Below.refl w.heap.size w).alloc (Nat.le_refl _) (.cells #[.int .u8 (b : Int)] 5))
  by_cases k5 : b = 91 ∨ b = 93 ∨ b = 92 ∨ b = 45 ∨ b = 94
  · have HS := hide (show signL b = [92, UInt8.ofNat b] by unfold signL; rw [if_neg k1, if_neg k2, if_neg k3, if_neg k4, if_pos k5])
    rcases k5 with h | h | h | h | h
    · have e1 : ((b : Int) == 91) = true := by rw [beq_iff_eq]; omega
      clear h k1 k2 k3 k4
      go_enter Try.func13, Try.ntmps13
      go_wp2_with fail
      go_ret
      exact ⟨by rw [HS.out]; rfl, HB1.out⟩
    · have n91 : ((b : Int) == 91) = false := by rw [beq_eq_false_iff_ne]; omega
      have e1 : ((b : Int) == 93) = true := by rw [beq_iff_eq]; omega
      clear h k1 k2 k3 k4
      go_enter Try.func13, Try.ntmps13
      go_wp2_with fail
      go_ret
      exact ⟨by rw [HS.out]; rfl, HB1.out⟩
    · have n91 : ((b : Int) == 91) = false := by rw [beq_eq_false_iff_ne]; omega
      have n93 : ((b : Int) == 93) = false := by rw [beq_eq_false_iff_ne]; omega
      have e1 : ((b : Int) == 92) = true := by rw [beq_iff_eq]; omega
      clear h k1 k2 k3 k4
      go_enter Try.func13, Try.ntmps13
      go_wp2_with fail
      go_ret
      exact ⟨by rw [HS.out]; rfl, HB1.out⟩
    · have n91 : ((b : Int) == 91) = false := by rw [beq_eq_false_iff_ne]; omega
      have n93 : ((b : Int) == 93) = false := by rw [beq_eq_false_iff_ne]; omega
      have n92 : ((b : Int) == 92) = false := by rw [beq_eq_false_iff_ne]; omega
      have e1 : ((b : Int) == 45) = true := by rw [beq_iff_eq]; omega
      clear h k1 k2 k3 k4
      go_enter Try.func13, Try.ntmps13
      go_wp2_with fail
      go_ret
      exact ⟨by rw [HS.out]; rfl, HB1.out⟩
    · have n91 : ((b : Int) == 91) = false := by rw [beq_eq_false_iff_ne]; omega
      have n93 : ((b : Int) == 93) = false := by rw [beq_eq_false_iff_ne]; omega
      have n92 : ((b : Int) == 92) = false := by rw [beq_eq_false_iff_ne]; omega
      have n45 : ((b : Int) == 45) = false := by rw [beq_eq_false_iff_ne]; omega
      have e1 : ((b : Int) == 94) = true := by rw [beq_iff_eq]; omega
      clear h k1 k2 k3 k4
      go_enter Try.func13, Try.ntmps13
      go_wp2_with fail
      go_ret
      exact ⟨by rw [HS.out]; rfl, HB1.out⟩
  · have n1 : ((b : Int) == 91) = false := by rw [beq_eq_false_iff_ne]; omega
    have n2 : ((b : Int) == 93) = false := by rw [beq_eq_false_iff_ne]; omega
    have n3 : ((b : Int) == 92) = false := by rw [beq_eq_false_iff_ne]; omega
    have n4 : ((b : Int) == 45) = false := by rw [beq_eq_false_iff_ne]; omega
    have n5 : ((b : Int) == 94) = false := by rw [beq_eq_false_iff_ne]; omega
    by_cases k6 : 32 < b ∧ b < 127
    · have HS := hide (show signL b = [UInt8.ofNat b] by unfold signL; rw [if_neg k1, if_neg k2, if_neg k3, if_neg k4, if_neg k5, if_pos k6])
      have g1 : (32 : Int) < (b : Int) := by omega
      have g2 : (b : Int) < 127 := by omega
      clear k1 k2 k3 k4 k5 k6
      go_enter Try.func13, Try.ntmps13
      go_wp2_with fail
      go_ret
      exact ⟨by rw [HS.out]; rfl, HB1.out⟩
    · have HS := hide (show signL b = [92, 120, hexD (b / 16), hexD (b % 16)] by unfold signL; rw [if_neg k1, if_neg k2, if_neg k3, if_neg k4, if_neg k5, if_neg k6])
      have hq := hexS_cut (b / 16) (by omega)
      have hr := hexS_cut (b % 16) (by omega)
      clear k1 k2 k3 k4 k5 hcv
      have hk : ¬ (32 : Int) < (b : Int) ∨ (32 : Int) < (b : Int) ∧ ¬ (b : Int) < 127 := by omega
      clear k6
      rcases hk with g1 | ⟨g1, g2⟩
      all_goals
        go_enter Try.func13, Try.ntmps13
        go_upto_region 18 with fail
        go_quiet (fail)
        go_wp2_with fail
        go_ret
        refine ⟨?_, below_drewN HB.out _⟩
        rw [HS.out]
        show Ending.returned (.string ((⟨#[92, 120]⟩ : ByteArray) ++ hexS.extract (b / 16) (b / 16 + 1) ++ hexS.extract (b % 16) (b % 16 + 1))) = _
        rw [hq, hr]
        rfl

/-- A run's text. -/
def runT (r : Nat × Nat) : List UInt8 := signL r.1 ++ (if r.1 + 1 < r.2 then [45] else []) ++ (if r.1 < r.2 then signL r.2 else [])
theorem runT_len (r : Nat × Nat) : (runT r).length ≤ 9 := by
  unfold runT
  have h1 := signL_len r.1
  have h2 := signL_len r.2
  simp only [List.length_append]
  split <;> split <;> simp <;> omega
/-- A set's text. -/
def setT (l : List (Nat × Nat)) : List UInt8 := 91 :: l.flatMap runT ++ [93]
structure PrRel (w : World) (B : Nat) (l : List (Nat × Nat)) (v : Value) (k : Nat) (x : ByteArray) (wr : World) : Prop where
  below : Below w.heap.size w wr
  row : wr.ownsRow B 47 2 v l.length (rnC l)
  le : k ≤ l.length
  out : x.data.toList = 91 :: (l.take k).flatMap runT
theorem PrRel.next {w : World} {B : Nat} {l : List (Nat × Nat)} {v : Value} {k : Nat} {x y : ByteArray} {wr w2 : World} (h : PrRel w B l v k x wr) (hk : k < l.length) (hb : Below wr.heap.size wr w2) (hy : y.data.toList = x.data.toList ++ runT l[k]) : PrRel w B l v (k + 1) y w2 := by
  refine ⟨below_next h.below hb, own_below h.row hb, hk, ?_⟩
  rw [hy, h.out, List.take_succ_eq_append_getElem hk, List.flatMap_append]
  simp
theorem flat_len (l : List (Nat × Nat)) : (l.flatMap runT).length ≤ 9 * l.length := by
  induction l with
  | nil => simp
  | cons x xs ih => rw [List.flatMap_cons, List.length_append, List.length_cons]; have := runT_len x; omega

set_option maxHeartbeats 4000000 in
set_option maxRecDepth 100000 in
theorem Print_any (s : St) (hs : s.ok) (w : World) : Calls Try.prog 6 #[sv s] w fun e w' => e = .returned (.string ⟨(setT (runsOf s)).toArray⟩) ∧ Below w.heap.size w w' := by
  have hb0 := (Below.refl w.heap.size w).alloc (Nat.le_refl _) (.cells (svC s) 24)
  have HB := hide hb0
  have HR := hide (Runs_any s hs (w.alloc (.cells (svC s) 24)))
  obtain ⟨l, hl⟩ : ∃ l, runsOf s = l := ⟨_, rfl⟩
  have hrk := (runs_all s 256 (Nat.le_refl _)).1
  have hrl := runs_lt s 256 (Nat.le_refl _)
  have hl' : runsB (bytesTo s 256) = l := hl
  rw [hl'] at hrk hrl
  unfold RnP at HR
  rw [hl] at HR
  have HL := hide hl
  have HRK := hide hrk
  clear hb0 hl hl' hrk
  go_enter Try.func6, Try.ntmps6
  go_wp2_with fail
  refine HR.out.mono ?_
  rintro e w1 ⟨vL, rfl, hp⟩
  obtain ⟨aL, cL, rfl, _⟩ := own_shape hp.out.1
  have HR0 := hide (show PrRel w (w.heap.size + 1) l (.slice aL l.length cL) 0 ⟨#[91]⟩ w1 from ⟨below_next HB.out hp.out.2, by have := hp.out.1; rw [World.size_alloc] at this; exact this, Nat.zero_le _, rfl⟩)
  clear hp HR
  go_wp2_with fail
  go_loopg [3, 9] l.length (fun u v3 v9 wr => ∃ (k : Nat) (x : ByteArray), Hid (u = l.length - k) ∧ v9 = .int .i64 (k : Int) ∧ v3 = .string x ∧ Hid (PrRel w (w.heap.size + 1) l (.slice aL l.length cL) k x wr))
  case atStart => exact ⟨0, _, rfl, rfl, rfl, HR0⟩
  case round =>
    obtain ⟨k, x, hu, rfl, rfl, hr⟩ := hrel
    have hle := hr.out.le
    have HX := hide (show x.size ≤ 3000 by
      have h1 : x.size = x.data.toList.length := by simp
      rw [h1, hr.out.out, List.length_cons]
      have h2 := flat_len (l.take k)
      rw [List.length_take] at h2
      omega)
    have hxs := HX.out
    by_cases hlt : k < l.length
    · have hlti : (k : Int) < (l.length : Int) := by omega
      obtain ⟨aL', cL', e9, hat⟩ := own_shape hr.out.row
      obtain ⟨rfl, rfl⟩ : aL = aL' ∧ cL = cL' := by injection e9 with e1 _ e2; exact ⟨e1, e2⟩
      obtain ⟨g, rfl, hBg, hgl, hcell⟩ := hat (by omega)
      obtain ⟨y0, y1⟩ := rnC_get l k hlt
      have z0 := hcell _ _ y0
      have z1 := hcell _ _ y1
      have hrk := HRK.out l[k] (List.getElem_mem hlt)
      obtain ⟨lo, hi, hlh⟩ : ∃ lo hi, l[k] = (lo, hi) := ⟨_, _, rfl⟩
      have HLH := hide hlh
      rw [hlh] at z0 z1 hrk
      have hr1 : lo ≤ hi := hrk.1
      have hr2 : hi < 256 := hrk.2
      have HS1 := hide (fun W => sign_any lo (by omega) W)
      have HS2 := hide (fun W => sign_any hi (by omega) W)
      have HNX := hide (fun w2 (y : ByteArray) (h : Below wr.heap.size wr w2) (hy : y.data.toList = x.data.toList ++ runT (lo, hi)) => hr.out.next hlt (y := y) h (by rw [HLH.out]; exact hy))
      have hs1 : (⟨(signL lo).toArray⟩ : ByteArray).size ≤ 4 := by have := signL_len lo; simpa [ByteArray.size] using this
      have hs2 : (⟨(signL hi).toArray⟩ : ByteArray).size ≤ 4 := by have := signL_len hi; simpa [ByteArray.size] using this
      have HT := hide (show runT (lo, hi) = signL lo ++ (if lo + 1 < hi then [45] else []) ++ (if lo < hi then signL hi else []) from rfl)
      have h1 : (⟨(signL lo).toArray⟩ : ByteArray).data.toList = signL lo := by simp
      have h2 : (⟨(signL hi).toArray⟩ : ByteArray).data.toList = signL hi := by simp
      have HT1 := hide h1
      have HT2 := hide h2
      obtain ⟨u1, hu1⟩ : ∃ u, (⟨(signL lo).toArray⟩ : ByteArray) = u := ⟨_, rfl⟩
      obtain ⟨u2, hu2⟩ : ∃ u, (⟨(signL hi).toArray⟩ : ByteArray) = u := ⟨_, rfl⟩
      rw [hu1] at hs1 HS1 HT1
      rw [hu2] at hs2 HS2 HT2
      have HB := hide hr.out.below
      clear y0 y1 hcell hat e9 hrk hlh h1 h2 hu1 hu2 hr
      have hba := (Below.refl wr.heap.size wr).alloc (Nat.le_refl _) (.cells #[.int .i64 (lo : Int), .int .i64 (hi : Int)] 47)
      have HBA := hide hba
      have HBX := hide (Blk.new wr #[.int .i64 (lo : Int), .int .i64 (hi : Int)] 47)
      clear hba
      by_cases hA : lo < hi
      · have hAi : (lo : Int) < (hi : Int) := by omega
        by_cases hC : lo + 1 < hi
        · have hCi : (lo : Int) + 1 < (hi : Int) := by omega
          rw [if_pos hA, if_pos hC] at HT
          go_wp2_with fail
          refine (HS1.out _).mono ?_
          rintro e w2 ⟨rfl, h1⟩
          have HB2 := hide (below_next HBA.out h1)
          have bx := HBX.out.below h1
          have q0 := bx.cell 0
          have q1 := bx.cell 1
          have ql := bx.lt
          clear h1 bx
          go_wp2_with fail
          refine (HS2.out _).mono ?_
          rintro e w3 ⟨rfl, h1⟩
          have HN := hide (HNX.out w3 (x ++ u1 ++ ⟨#[45]⟩ ++ u2) (below_next HB2.out h1) (by rw [HT.out, ← HT1.out, ← HT2.out]; simp))
          clear h1 q0 q1 ql
          go_wp2_with fail
          go_roundg (l.length - (k + 1))
          case measure => rw [hu.out]; omega
          case rel => exact ⟨k + 1, _, rfl, by go_num, rfl, HN⟩
        · have hCi : ¬ (lo : Int) + 1 < (hi : Int) := by omega
          rw [if_pos hA, if_neg hC] at HT
          go_wp2_with fail
          refine (HS1.out _).mono ?_
          rintro e w2 ⟨rfl, h1⟩
          have HB2 := hide (below_next HBA.out h1)
          have bx := HBX.out.below h1
          have q0 := bx.cell 0
          have q1 := bx.cell 1
          have ql := bx.lt
          clear h1 bx
          go_wp2_with fail
          refine (HS2.out _).mono ?_
          rintro e w3 ⟨rfl, h1⟩
          have HN := hide (HNX.out w3 (x ++ u1 ++ u2) (below_next HB2.out h1) (by rw [HT.out, ← HT1.out, ← HT2.out]; simp))
          clear h1 q0 q1 ql
          go_wp2_with fail
          go_roundg (l.length - (k + 1))
          case measure => rw [hu.out]; omega
          case rel => exact ⟨k + 1, _, rfl, by go_num, rfl, HN⟩
      · have hAi : ¬ (lo : Int) < (hi : Int) := by omega
        have hCi : ¬ (lo : Int) + 1 < (hi : Int) := by omega
        rw [if_neg hA, if_neg (show ¬ lo + 1 < hi by omega)] at HT
        go_wp2_with fail
        refine (HS1.out _).mono ?_
        rintro e w2 ⟨rfl, h1⟩
        have HN := hide (HNX.out w2 (x ++ u1) (below_next HBA.out h1) (by rw [HT.out, ← HT1.out]; simp))
        have bx := HBX.out.below h1
        have q0 := bx.cell 0
        have q1 := bx.cell 1
        have ql := bx.lt
        clear h1 bx
        go_wp2_with fail
        go_roundg (l.length - (k + 1))
        case measure => rw [hu.out]; omega
        case rel => exact ⟨k + 1, _, rfl, by go_num, rfl, HN⟩
    · obtain rfl : k = l.length := by omega
      have ho := hr.out.out
      rw [List.take_length] at ho
      have HE := hide (show x ++ ⟨#[93]⟩ = (⟨(setT (runsOf s)).toArray⟩ : ByteArray) by
        apply WideShapes.bytes_inj
        rw [HL.out]
        show (x ++ ⟨#[93]⟩ : ByteArray).data.toList = setT l
        simp [setT, ho])
      have HB := hide hr.out.below
      clear ho hr
      go_wp2_with fail
      go_ret
      exact ⟨by rw [← HE.out]; rfl, HB.out⟩
end Go.Proofs.Ytfngkdcjifdliaa
