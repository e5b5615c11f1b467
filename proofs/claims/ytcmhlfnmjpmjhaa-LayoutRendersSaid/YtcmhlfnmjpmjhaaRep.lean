/- The walk of strings.Repeat for one blank. -/
import Derived.Test.YtcmhlfnmjpmjhaaWput
import Derived.Deep.DeepFit
import Derived.Deep.LoopGhost
import Derived.Deep.DeepCutAuto
import Derived.Deep.CutBlock
set_option linter.unusedVariables false
set_option linter.unusedSimpArgs false
set_option linter.unnecessarySimpa false
set_option linter.deprecated false
namespace Go.Proofs.Ytcmhlfnmjpmjhaa
open Go.RowKit

abbrev blank : ByteArray := ⟨#[32]⟩
abbrev blanks (n : Nat) : ByteArray := ⟨(List.replicate n 32).toArray⟩
theorem blanks_size (n : Nat) : (blanks n).size = n := by rw [Lib.size_eq]; simp [blanks]
theorem blanks_cut (m n : Nat) (h : n ≤ m) : (blanks m).extract 0 n = blanks n := by
  rw [Lib.extract_eq]
  simp only [blanks, List.drop_zero, Nat.sub_zero, List.take_replicate, Nat.min_eq_left h]
theorem mul66 (c : Nat) (hc : c ≤ 65536) (w : World) : Calls Try.prog 66 #[.int .u64 1, .int .u64 c] w fun e w' => e = .returned (.tuple #[.int .u64 0, .int .u64 c]) ∧ w' = w := by
  have h := Try.bits_Mul 1 c (by omega) (by omega) w
  rw [Nat.one_mul, Nat.div_eq_of_lt (by omega), Nat.mod_eq_of_lt (by omega)] at h
  exact h
theorem pre67 (K : ByteArray) (m : Nat) (hK : K = blanks (m + 1)) (w : World) : Calls Try.prog 67 #[.string K, .string blank] w fun e w' => e = .returned (.bool true) ∧ w' = w := by
  subst hK
  have h := Try.strings_HasPrefix (blanks (m + 1)) blank w
  have e : Lib.hasPrefix (blanks (m + 1)).data.toList blank.data.toList = true := by
    simp [Lib.hasPrefix, List.replicate_succ, List.isPrefixOf]
  rw [e] at h
  exact h

/-- What Repeat answers. -/
def RepP (c : Nat) (w : World) (e : Ending) (w' : World) : Prop := e = .returned (.string (blanks c)) ∧ Below w.heap.size w w'

set_option maxHeartbeats 2000000 in
set_option maxRecDepth 1000000 in
theorem repeat_short (c : Nat) (h2 : 2 ≤ c) (hc : c ≤ 128) (w : World) : Calls Try.prog 65 #[.string blank, .int .i64 c] w (RepP c w) := by
  have hm := hide (mul66 c (by omega))
  have h0 : ¬ c = 0 := by omega
  have h1 : ¬ c = 1 := by omega
  go_enter Try.func65, Try.ntmps65
  go_wp2_with (first | (go_at_call 66; refine (hm.out _).mono ?_; rintro e w' ⟨rfl, rfl⟩) | (go_at_call 67; refine (pre67 _ 127 (by rfl) _).mono ?_; rintro e w' ⟨rfl, rfl⟩))
  go_ret
  exact ⟨by rw [← blanks_cut 128 c hc]; rfl, Below.refl _ _⟩

theorem WB.isF {N : Prop} {B b : Nat} {out : List UInt8} {w : World} (h : WB N 49 [] B b out w) : Lib.IsBuilderF 49 5 B b (Lib.byteCells out) w := by
  obtain ⟨hB, p, v, hp, hbk, hown, hN⟩ := h
  have hA : Lib.BuilderAtF 49 5 B b p (Lib.byteCells out) w := ⟨hB, v, hbk, by rw [Lib.byteCells_length]; exact hown, Lib.ownBlock_neF hown hbk (by decide)⟩
  rcases hp with rfl | rfl
  · exact .inl hA
  · exact .inr hA
theorem WB.ofF {B b : Nat} {out : List UInt8} {w : World} (h : Lib.IsBuilderF 49 5 B b (Lib.byteCells out) w) : WB False 49 [] B b out w := by
  rcases h with ⟨hB, v, hbk, hown, _⟩ | ⟨hB, v, hbk, hown, _⟩
  · exact ⟨hB, _, v, .inl rfl, hbk, by rw [Lib.byteCells_length] at hown; exact hown, fun h => h.elim⟩
  · exact ⟨hB, _, v, .inr rfl, hbk, by rw [Lib.byteCells_length] at hown; exact hown, fun h => h.elim⟩
theorem min3 {P : Program} {w : World} (ts : Array TypeId) (t : TypeId) (x y z c : Int) (h : (if z < (if y < x then y else x) then z else (if y < x then y else x)) = c) :
    (Builtin.min_ ts t #[.int .i64 x, .int .i64 y, .int .i64 z]).run P w = .ok (.int .i64 c) w := by
  subst h
  simp [Builtin.min_, Builtin.min2]

set_option maxHeartbeats 4000000 in
set_option maxRecDepth 1000000 in
theorem repeat_long (c : Nat) (h2 : 128 < c) (hc : c ≤ 65536) (w : World) : Calls Try.prog 65 #[.string blank, .int .i64 c] w (RepP c w) := by
  have hm := hide (mul66 c hc)
  have h0 : ¬ c = 0 := by omega
  have h1 : ¬ c = 1 := by omega
  have h128 : ¬ ((c : Int) ≤ 128) := by omega
  go_enter Try.func65, Try.ntmps65
  go_upto_if 96 with (first | (go_at_call 66; refine (hm.out _).mono ?_; rintro e w' ⟨rfl, hw⟩; rw [hw]))
  go_cut [8] (fun s8 wx => w = wx ∧ ∃ m : Nat, 1 ≤ m ∧ s8 = .int .i64 (m : Int))
  case first =>
    go_wp2
    all_goals go_meet
    · exact ⟨rfl, 8192, by omega, rfl⟩
    · exact ⟨rfl, c, by omega, rfl⟩
  case rest =>
    obtain ⟨rfl, m, hm1, rfl⟩ := hcut
    clear hm
    have b0 : Below w.heap.size w (w.alloc (.cells #[.pointer none, .slice none 0 0] 49)) := (Below.refl _ w).alloc (Nat.le_refl _) _
    have cG := Try.Builder_Grow_fresh w.heap.size w.heap.size c (w.alloc (.cells #[.pointer none, .slice none 0 0] 49)) (Nat.le_refl _) (heap_alloc_new w _) b0.size (by omega)
    go_wp2_with (go_at_call 68; refine cG.mono ?_; rintro e W1 ⟨rfl, g1, b1⟩)
    have hw1 : WB False 49 [] w.heap.size w.heap.size [] W1 := WB.ofF (Lib.IsBuilderF.of (Or.inr g1))
    have cW := WriteString_b lt49 w.heap.size w.heap.size [] blank W1 hw1 (by decide) (Nat.le_trans b0.size b1.size)
    go_wp2_with (go_at_call 27; refine cW.mono ?_; rintro e W2 ⟨rfl, g2, b2, _⟩)
    have b02 : Below w.heap.size w W2 := b0.trans (b1.trans b2)
    have g2' : WB False 49 [] w.heap.size w.heap.size (List.replicate 1 32) W2 := g2
    clear cG cW g1 hw1 g2 b0 b1 b2
    go_loopg [] (c - 1) (fun u wx => ∃ q : Nat, Hid (u = c - q) ∧ Hid (1 ≤ q ∧ q ≤ c ∧ WB False 49 [] w.heap.size w.heap.size (List.replicate q 32) wx ∧ Below w.heap.size w wx))
    case atStart => exact ⟨1, rfl, ⟨Nat.le_refl _, by omega, g2', b02⟩⟩
    case round =>
      obtain ⟨q, hu, hq⟩ := hrel
      obtain ⟨hq1, hqc, hB, hb⟩ := hq.out
      have hL := hide (Len_b w.heap.size w.heap.size (List.replicate q 32) wr hB)
      rw [List.length_replicate] at hL
      have hS := hide (Try.Builder_String_any_k w.heap.size w.heap.size (List.replicate q 32) wr hB.isF hb.size)
      by_cases hlt : q < c
      · have hlti : (q : Int) < (c : Int) := by omega
        obtain ⟨k, hk⟩ : ∃ k, min (min (c - q) q) m = k := ⟨_, rfl⟩
        have hm3 : ∀ (ts : Array TypeId) (t : TypeId) (W : World), (Builtin.min_ ts t #[.int .i64 ((c : Int) - (q : Int)), .int .i64 (q : Int), .int .i64 (m : Int)]).run Try.prog W = .ok (.int .i64 (k : Int)) W := fun ts t W => by
          refine min3 ts t _ _ _ _ ?_
          rw [← hk]
          split <;> split <;> omega
        have hkq : k ≤ q := by omega
        have hkc : q + k ≤ c := by omega
        have hk1 : 1 ≤ k := by omega
        have HKQ := hide hk
        have hsz := blanks_size q
        clear hk
        have HT := hide (show ∀ W3, Lib.IsBuilderF 49 5 w.heap.size w.heap.size (Lib.byteCells (List.replicate q 32)) W3 ∧ Below w.heap.size wr W3 ∧ Lib.OthersKept 5 (some w.heap.size) wr W3 → Calls Try.prog 27 #[.pointer (some ⟨w.heap.size, 0, none⟩), .string ((blanks q).extract 0 k)] W3 fun e W4 => e = .returned (.tuple #[.int .i64 ((blanks q).extract 0 k).size, .nilIface]) ∧ Hid (WB False 49 [] w.heap.size w.heap.size (List.replicate (q + k) 32) W4 ∧ Below w.heap.size w W4) from fun W3 h3 => by
          rw [blanks_cut q k hkq]
          refine (WriteString_b lt49 w.heap.size w.heap.size (List.replicate q 32) (blanks k) W3 (WB.ofF h3.1) (by rw [List.length_replicate, blanks_size]; omega) (Nat.le_trans hb.size h3.2.1.size)).mono ?_
          rintro e W4 ⟨rfl, h4, b4, _⟩
          refine ⟨rfl, ?_, hb.trans (h3.2.1.trans b4)⟩
          rw [← List.replicate_append_replicate]
          exact h4)
        clear hB hq hb
        go_wp2_with (first | (go_at_call 59; refine hL.out.mono ?_; rintro e w' ⟨rfl, hw⟩; rw [hw]) | (go_at_call 22; refine hS.out.mono ?_; rintro e W3 ⟨rfl, h3⟩; have H3 := hide h3; clear h3) | (go_at_call 27; refine (HT.out _ H3.out).mono ?_; rintro e W4 ⟨rfl, H4⟩))
        go_roundg (c - (q + k))
        case measure => rw [hu.out]; omega
        case rel => exact ⟨q + k, rfl, ⟨by omega, hkc, H4.out.1, H4.out.2⟩⟩
      · have hqe : q = c := by omega
        subst hqe
        have hlti : ¬ ((q : Int) < (q : Int)) := by omega
        clear hB hq
        go_wp2_with (first | (go_at_call 59; refine hL.out.mono ?_; rintro e w' ⟨rfl, hw⟩; rw [hw]) | (go_at_call 22; refine hS.out.mono ?_; rintro e W3 ⟨rfl, _, h3, _⟩))
        go_ret
        exact ⟨rfl, hb.trans h3⟩

set_option maxHeartbeats 1000000 in
set_option maxRecDepth 1000000 in
theorem repeat_any (c : Nat) (hc : c ≤ 65536) (w : World) : Calls Try.prog 65 #[.string blank, .int .i64 c] w (RepP c w) := by
  rcases Nat.lt_or_ge c 2 with h | h
  · rcases (by omega : c = 0 ∨ c = 1) with rfl | rfl
    · go_enter Try.func65, Try.ntmps65
      go_wp2
      go_ret
      exact ⟨rfl, Below.refl _ _⟩
    · go_enter Try.func65, Try.ntmps65
      go_wp2
      go_ret
      exact ⟨rfl, Below.refl _ _⟩
  · rcases Nat.lt_or_ge 128 c with h3 | h3
    · exact repeat_long c h3 hc w
    · exact repeat_short c h h3 w
end Go.Proofs.Ytcmhlfnmjpmjhaa
