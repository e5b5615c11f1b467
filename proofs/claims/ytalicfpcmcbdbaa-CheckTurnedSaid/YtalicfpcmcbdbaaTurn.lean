/- The walk of turn. -/
import Derived.Test.YtalicfpcmcbdbaaRefH
set_option linter.unusedVariables false
set_option linter.unusedSimpArgs false
set_option linter.unnecessarySimpa false
set_option linter.deprecated false
namespace Go.Proofs.Ytalicfpcmcbdbaa
open Go.RowKit

/-- The places from b on and then from the beginning. -/
def rotI (n b : Nat) (k : Nat) : List Nat := (List.range k).map (fun i => (i + b) % n)
theorem tmod_gt (y : Int) {n : Int} (h : 0 < n) : -n < y.tmod n := by
  rcases Int.le_total 0 y with h0 | h0
  · have := Int.tmod_nonneg n h0; omega
  · have h1 := Int.tmod_lt_of_pos (-y) h
    rw [Int.neg_tmod] at h1; omega
theorem rotI_len (n b k : Nat) : (rotI n b k).length = k := by unfold rotI; simp
theorem rotI_snoc (n b k : Nat) : rotI n b (k + 1) = rotI n b k ++ [(k + b) % n] := by unfold rotI; rw [List.range_succ, List.map_append]; rfl
set_option maxHeartbeats 800000 in
set_option maxRecDepth 100000 in
theorem turn_any (n : Nat) (y : Int) (hy : i64 y) (hn : n ≤ 100000) (w : World) : Calls Try.prog 20 #[.int .i64 (n : Int), .int .i64 y] w fun e w' => ∃ b v, e = .returned v ∧ (0 < n → b < n) ∧ OwnI w.heap.size v (rotI n b n) w' ∧ Below w.heap.size w w' := by
  obtain ⟨i0, hi, hz0, hz1, hz2⟩ := info_parts info3
  have hy2 : -9223372036854775808 ≤ y ∧ y ≤ 9223372036854775807 := hy
  go_enter Try.func20, Try.ntmps20
  by_cases h0 : n = 0
  · subst h0
    have hgt : ¬ ((0 : Nat) : Int) > 0 := by simp
    go_wp2_with fail
    go_loopg [5, 6] 0 (fun u v5 v6 wr => v6 = .int .i64 0 ∧ v5 = .slice none 0 0 ∧ w = wr)
    case atStart => exact ⟨rfl, rfl, rfl⟩
    case round =>
      obtain ⟨rfl, rfl, rfl⟩ := hrel
      go_wp2_with fail
      go_ret
      exact ⟨0, _, rfl, fun h => h, World.ownsRow_nil _ _ _ _, Below.refl _ _⟩
  · have hgt : (n : Int) > 0 := by omega
    have hnz : ¬ (n : Int) = 0 := by omega
    obtain ⟨b, hbn, hbz⟩ : ∃ b : Nat, b < n ∧ (wrap64 (y.tmod (n : Int) + (n : Int))).tmod (n : Int) = (b : Int) := by
      have hpos : (0 : Int) < (n : Int) := by omega
      have h1 : y.tmod (n : Int) < (n : Int) := Int.tmod_lt_of_pos y hpos
      have h2 : -(n : Int) < y.tmod (n : Int) := tmod_gt y hpos
      have h3 : wrap64 (y.tmod (n : Int) + (n : Int)) = y.tmod (n : Int) + (n : Int) := by unfold wrap64; omega
      rw [h3]
      have h4 : 0 ≤ (y.tmod (n : Int) + (n : Int)).tmod (n : Int) := Int.tmod_nonneg _ (by omega)
      have h5 : (y.tmod (n : Int) + (n : Int)).tmod (n : Int) < (n : Int) := Int.tmod_lt_of_pos _ hpos
      exact ⟨((y.tmod (n : Int) + (n : Int)).tmod (n : Int)).toNat, by omega, by omega⟩
    have hgd : decide (0 < n) = true := decide_eq_true (by omega)
    go_upto_region 4 with fail
    have HBN := hide hbn
    clear hbz
    go_wp2_with fail
    go_loopg [5, 6] n (fun u v5 v6 wr => ∃ k : Nat, Hid (u = n - k) ∧ v6 = .int .i64 (k : Int) ∧ Hid (k ≤ n ∧ Below w.heap.size w wr ∧ OwnI w.heap.size v5 (rotI n b k) wr))
    case atStart => exact ⟨0, hide rfl, rfl, hide ⟨Nat.zero_le _, Below.refl _ _, World.ownsRow_nil _ _ _ _⟩⟩
    case round =>
      obtain ⟨k, hu, rfl, hh⟩ := hrel
      have hkl := hh.out.1
      by_cases hlt : k < n
      · have hlti : (k : Int) < (n : Int) := by omega
        have hmod : ((k : Int) + (b : Int)).tmod (n : Int) = (((k + b) % n : Nat) : Int) := by
          rw [← Int.natCast_add, ← Int.ofNat_tmod]
        have hsn := rotI_snoc n b k
        obtain ⟨r, hr⟩ : ∃ r, (k + b) % n = r := ⟨_, rfl⟩
        rw [hr] at hmod hsn
        have HSN := hide hsn
        have HOW := hide hh.out.2.2
        have hml : (rotI n b k).length ≤ 100000 := by rw [rotI_len]; omega
        have hbs := hh.out.2.1.size
        have hbk : b ≤ 100000 := by omega
        have HLEN := hide (rotI_len n b k)
        clear hsn hr
        generalize rotI n b k = l0 at HOW HSN hml HLEN ⊢
        go_wp2_with (at_builtin; refine wpList_append_own _ rfl _ _ 40 rfl w.heap.size 3 i0 _ 1 8 Try.underlying40 hi hz0 hz1 hz2 rfl (by decide) _ _ (intsC l0) rfl (HOW.out.alloc _) ⟨wr.heap.size, 0, none⟩ 1 1 [.int .i64 (r : Int)] rfl rfl (cells_at _ _ _ _ rfl) (by intro y hy; simp at hy; subst hy; rfl) (by unfold maxLen; omega) (by omega) (by simp; omega) ?_)
        intro v' w7 hown' hgrow _
        have HG := hide hgrow
        have HO := hide hown'
        clear hgrow hown'
        go_wp2_with fail
        go_roundg (n - (k + 1))
        case measure => rw [hu.out]; omega
        case rel =>
          have hb2 := hh.out.2.1.alloc hh.out.2.1.size (.cells #[.int .i64 (r : Int)] 3)
          refine ⟨k + 1, hide rfl, by go_num, hide ⟨hlt, hb2.grown HG.out hb2.size (fun g hg => own_block_ge HOW.out g hg), ?_⟩⟩
          rw [HSN.out]
          unfold OwnI
          rw [intsC_snoc, List.length_append]
          exact HO.out
      · have hlti : ¬ (k : Int) < (n : Int) := by omega
        have HO := hide hh.out.2.2
        rw [show k = n by omega] at HO
        go_wp2_with fail
        go_ret
        exact ⟨b, _, rfl, by first | exact HBN.out | exact fun _ => HBN.out, HO.out, hh.out.2.1⟩
end Go.Proofs.Ytalicfpcmcbdbaa
