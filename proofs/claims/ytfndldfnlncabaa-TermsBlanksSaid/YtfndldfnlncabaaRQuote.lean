/- The walk of the reference's Quote. -/
import Derived.Test.YtfndldfnlncabaaQuoted
import Derived.Test.YtfndldfnlncabaaSame
import Derived.Deep.LoopGhost
import Derived.Deep.Cut
import Derived.StillTailTactics
import Derived.Deep.RegionWith
import Derived.IntWalk
set_option linter.unusedVariables false
set_option linter.unusedSimpArgs false
set_option linter.unnecessarySimpa false
set_option linter.deprecated false
namespace Go.Proofs.Ytfndldfnlncabaa
open Go.RowKit

def letB (c : UInt8) : UInt8 := if c = 34 then 34 else if c = 92 then 92 else if c = 10 then 110 else if c = 9 then 116 else if c = 13 then 114 else 0
theorem qByte_let (c : UInt8) : qByte c = if letB c ≠ 0 then [92, letB c] else if c < 32 ∨ 126 < c then [92, 120, hexD (c.toNat / 16), hexD (c.toNat % 16)] else [c] := by
  unfold qByte letB
  by_cases h1 : c = 34
  · simp [h1]
  by_cases h2 : c = 92
  · simp [h1, h2]
  by_cases h3 : c = 10
  · simp [h1, h2, h3]
  by_cases h4 : c = 9
  · simp [h1, h2, h3, h4]
  by_cases h5 : c = 13
  · simp [h1, h2, h3, h4, h5]
  simp [h1, h2, h3, h4, h5]

set_option maxHeartbeats 400000 in
theorem letter_any (c : UInt8) (w : World) : Calls Try.prog 66 #[.int .u8 (c.toNat : Int)] w fun e w' => e = .returned (.int .u8 ((letB c).toNat : Int)) ∧ w = w' := by
  unfold letB
  by_cases h1 : c = 34
  · subst h1
    go_enter Try.func66, Try.ntmps66
    go_wp2
    go_ret
    exact ⟨rfl, rfl⟩
  have n1 := byte_ne h1
  by_cases h2 : c = 92
  · subst h2
    go_enter Try.func66, Try.ntmps66
    go_wp2
    go_ret
    exact ⟨rfl, rfl⟩
  have n2 := byte_ne h2
  by_cases h3 : c = 10
  · subst h3
    go_enter Try.func66, Try.ntmps66
    go_wp2
    go_ret
    exact ⟨rfl, rfl⟩
  have n3 := byte_ne h3
  by_cases h4 : c = 9
  · subst h4
    go_enter Try.func66, Try.ntmps66
    go_wp2
    go_ret
    exact ⟨rfl, rfl⟩
  have n4 := byte_ne h4
  by_cases h5 : c = 13
  · subst h5
    go_enter Try.func66, Try.ntmps66
    go_wp2
    go_ret
    exact ⟨rfl, rfl⟩
  have n5 := byte_ne h5
  rw [if_neg h1, if_neg h2, if_neg h3, if_neg h4, if_neg h5]
  have m1 : ((c.toNat : Int) == 34) = false := n1
  have m2 : ((c.toNat : Int) == 92) = false := n2
  have m3 : ((c.toNat : Int) == 10) = false := n3
  have m4 : ((c.toNat : Int) == 9) = false := n4
  have m5 : ((c.toNat : Int) == 13) = false := n5
  clear n1 n2 n3 n4 n5 h1 h2 h3 h4 h5
  go_enter Try.func66, Try.ntmps66
  go_wp2
  go_ret
  exact ⟨rfl, rfl⟩

theorem letter_any' (c d : UInt8) (w : World) (h : letB c = d) : Calls Try.prog 66 #[.int .u8 (c.toNat : Int)] w fun e w' => e = .returned (.int .u8 (d.toNat : Int)) ∧ w = w' := by
  subst h; exact letter_any c w
theorem hexAt : ∀ d, d < 16 → ∀ (h : d < (⟨#[48, 49, 50, 51, 52, 53, 54, 55, 56, 57, 97, 98, 99, 100, 101, 102]⟩ : ByteArray).size), (⟨#[48, 49, 50, 51, 52, 53, 54, 55, 56, 57, 97, 98, 99, 100, 101, 102]⟩ : ByteArray)[d]'h = hexD d
  | 0, _, _ => rfl | 1, _, _ => rfl | 2, _, _ => rfl | 3, _, _ => rfl | 4, _, _ => rfl | 5, _, _ => rfl | 6, _, _ => rfl | 7, _, _ => rfl
  | 8, _, _ => rfl | 9, _, _ => rfl | 10, _, _ => rfl | 11, _, _ => rfl | 12, _, _ => rfl | 13, _, _ => rfl | 14, _, _ => rfl | 15, _, _ => rfl
  | n + 16, h, _ => by omega
theorem two_cells (w : World) (a b : Value) (t : TypeId) : ∀ j u, [a, b][j]? = some u → (w.alloc (.cells #[a, b] t)).cell? ((⟨w.heap.size, 0, none⟩ : Addr).add j) = some u := by
  intro j u hj
  have h := Blk.cell (Blk.new w #[a, b] t) j
  rw [show (⟨w.heap.size, 0, none⟩ : Addr).add j = ⟨w.heap.size, j, none⟩ from by unfold Addr.add; split <;> simp_all, h, ← hj]
  simp
theorem four_cells (w : World) (a b c d : Value) (t : TypeId) : ∀ j u, [a, b, c, d][j]? = some u → (w.alloc (.cells #[a, b, c, d] t)).cell? ((⟨w.heap.size, 0, none⟩ : Addr).add j) = some u := by
  intro j u hj
  have h := Blk.cell (Blk.new w #[a, b, c, d] t) j
  rw [show (⟨w.heap.size, 0, none⟩ : Addr).add j = ⟨w.heap.size, j, none⟩ from by unfold Addr.add; split <;> simp_all, h, ← hj]
  simp

/-- The buffer holds bytes. -/
structure Buf (w : World) (v : Value) (acc : List UInt8) (wr : World) : Prop where
  own : wr.ownsRow w.heap.size 5 1 v acc.length (Lib.byteCells acc)
  below : Below w.heap.size w wr
theorem Buf.push {w wr w2 : World} {v v' : Value} {acc nb : List UInt8} (h : Buf w v acc wr) {w1 : World} (h1 : Below wr.heap.size wr w1)
    (ho : w2.ownsRow w.heap.size 5 1 v' (acc.length + nb.length) (Lib.byteCells acc ++ Lib.byteCells nb)) (hg : w1.grownBy w2 v.ownBlock) : Buf w v' (acc ++ nb) w2 := by
  have hb := h.below.trans (h1.mono h.below.size)
  refine ⟨?_, ?_⟩
  · rw [List.length_append, Lib.byteCells_append]
    exact ho
  · refine hb.grown hg hb.size fun k hk => ?_
    rcases h.own.2 with ⟨rfl, _⟩ | ⟨g, cap, cur, rfl, hB, _⟩
    · simp [Value.ownBlock] at hk
    · simp only [Value.ownBlock, Option.some.injEq] at hk
      omega
theorem Buf.len {w wr : World} {v : Value} {acc : List UInt8} (h : Buf w v acc wr) : w.heap.size ≤ wr.heap.size := h.below.size

set_option maxHeartbeats 3000000 in
set_option maxRecDepth 100000 in
theorem rquote_any (t : List UInt8) (hl : t.length ≤ 1000000000) (a : Option Addr) (c : Nat) (w : World) (hb : RB w a t) :
    Calls Try.prog 53 #[.slice a t.length c] w fun e w' => e = .returned (.string ⟨(quoteL t).toArray⟩) ∧ Below w.heap.size w w' := by
  obtain ⟨i0, hi, hz0, hz1, hz2⟩ := info_parts info5
  have HB := hide hb
  obtain ⟨n, hn⟩ : ∃ n, t.length = n := ⟨_, rfl⟩
  have HN := hide hn
  rw [hn] at hl ⊢
  clear hb hn
  go_enter Try.func53, Try.ntmps53
  go_wp2_with (at_builtin; refine wpList_append_own _ rfl _ _ 22 rfl w.heap.size 5 i0 (.int .u8 0) 1 1 Try.underlying22 hi hz0 hz1 hz2 rfl (by decide) _ 0 [] rfl (World.ownsRow_nil _ _ _ _) ⟨w.heap.size, 0, none⟩ 1 1 [.int .u8 34] rfl rfl (cell_one_new _ _ _) ?c2 ?c3 ?c4 ?c5 ?_)
  case c2 => first | (intro x hx; simp at hx; subst hx; rfl) | rfl
  case c3 => unfold maxLen; omega
  case c4 => omega
  case c5 => simp
  intro v' w2 hown' hgrow _
  have HQ0 := hide (show Buf w v' [34] w2 from ⟨hown', ((Below.refl _ w).alloc (Nat.le_refl _) _).grown hgrow (by simp) (fun k hk => by simp [Value.ownBlock] at hk)⟩)
  clear hown' hgrow
  go_wp2_with fail
  go_loopg [3, 4] n (fun m v3 v4 wr => ∃ k : Nat, Hid (m = n - k) ∧ k ≤ n ∧ v4 = .int .i64 (k : Int) ∧ Hid (Buf w v3 (34 :: qBytes (t.take k)) wr))
  case atStart => exact ⟨0, rfl, Nat.zero_le _, rfl, HQ0.out⟩
  case round =>
    obtain ⟨k, hm, hk, rfl, hq⟩ := hrel
    by_cases hlt : k < n
    · have hlti : (k : Int) < (n : Int) := by omega
      have hk2 : k < t.length := by have := HN.out; omega
      obtain ⟨b, o, rfl, hbl, hrd⟩ := HB.out.get (by rintro rfl; simp at hk2)
      have hcell := (hq.out.below.cell (p := ⟨b, o + k, none⟩) hbl).trans (hrd k hk2)
      have hbl2 := Nat.lt_of_lt_of_le hbl hq.out.below.size
      rw [List.getElem?_eq_getElem hk2, Option.getD_some] at hcell
      obtain ⟨c, hc⟩ : ∃ c, t[k] = c := ⟨_, rfl⟩
      rw [hc] at hcell
      obtain ⟨acc, hacc⟩ : ∃ acc, 34 :: qBytes (t.take k) = acc := ⟨_, rfl⟩
      have HQ := hide hq.out
      rw [hacc] at HQ
      have hlen : acc.length ≤ 4 * k + 1 := by
        have := qBytes_len (t.take k)
        rw [← hacc]
        simp only [List.length_cons, List.length_take] at this ⊢
        omega
      have HNX := hide (show acc ++ qByte c = 34 :: qBytes (t.take (k + 1)) by rw [← hacc, qBytes_take t k hk2, hc, List.cons_append])
      have hlo : (0 : Int) ≤ (c.toNat : Int) := by omega
      have hhi : (c.toNat : Int) ≤ 255 := by have := c.toNat_lt; omega
      clear hacc hq hc hrd hk2
      rw [qByte_let] at HNX
      obtain ⟨d0, hd0⟩ : ∃ d, letB c = d := ⟨_, rfl⟩
      have HLT := hide hd0
      rw [hd0] at HNX
      clear hd0
      by_cases hlet : d0 ≠ 0
      · rw [if_pos hlet] at HNX
        have hl1 : ((d0.toNat : Int) != 0) = true := by
          have : d0.toNat ≠ 0 := fun h => hlet (UInt8.toNat_inj.1 (by rw [h]; rfl))
          simp
          omega
        clear hlet
        go_wp2_with (first | (go_at_call 66; refine (letter_any' _ _ _ HLT.out).mono ?_; rintro e w' ⟨rfl, rfl⟩) | (at_builtin; refine wpList_append_own _ rfl _ _ 22 rfl w.heap.size 5 i0 (.int .u8 0) 1 1 Try.underlying22 hi hz0 hz1 hz2 rfl (by decide) _ _ _ rfl (HQ.out.own.alloc _) ⟨wr.heap.size, 0, none⟩ 2 2 [.int .u8 92, .int .u8 (d0.toNat : Int)] rfl rfl (two_cells _ _ _ _) ?c2 ?c3 ?c4 ?c5 ?_))
        case c2 => first | (intro x hx; simp at hx; first | (subst hx; rfl) | (rcases hx with rfl | rfl <;> rfl) | (rcases hx with rfl | rfl | rfl | rfl <;> rfl)) | rfl
        case c3 => unfold maxLen; omega
        case c4 => omega
        case c5 => have := HQ.out.below.size; simp; omega
        intro v' w2 hown' hgrow _
        have HQ2 := hide (HQ.out.push (nb := [92, d0]) ((Below.refl _ _).alloc (Nat.le_refl _) _) hown' hgrow)
        clear hown' hgrow
        go_wp2_with fail
        go_roundg (n - (k + 1))
        case measure => rw [hm.out]; omega
        case rel => exact ⟨k + 1, rfl, by omega, rfl, by have h := HQ2; rw [HNX.out] at h; exact h⟩
      · rw [if_neg hlet] at HNX
        have hlz : d0 = 0 := by simpa using hlet
        have hl1 : ((d0.toNat : Int) != 0) = false := by rw [hlz]; rfl
        clear hlet hlz
        by_cases hpr : c < 32 ∨ 126 < c
        · rw [if_pos hpr] at HNX
          rw [UInt8.lt_iff_toNat_lt, UInt8.lt_iff_toNat_lt] at hpr
          have h1 : UInt8.toNat 32 = 32 := rfl
          have h2 : UInt8.toNat 126 = 126 := rfl
          have c4 : ¬ (32 : Int) ≤ (c.toNat : Int) ∨ ((32 : Int) ≤ (c.toNat : Int) ∧ ¬ (c.toNat : Int) ≤ 126) := by omega
          clear hpr h1 h2
          obtain ⟨d1, hd1⟩ : ∃ d, c.toNat / 16 = d := ⟨_, rfl⟩
          obtain ⟨d2, hd2⟩ : ∃ d, c.toNat % 16 = d := ⟨_, rfl⟩
          rw [hd1, hd2] at HNX
          have l1 : d1 < 16 := by have := c.toNat_lt; omega
          have l2 : d2 < 16 := by omega
          have q0 : IntKind.i64.wrap (c.toNat : Int) = (c.toNat : Int) := IntWalk.i64_in _ (by omega)
          have q1 : (c.toNat : Int).tdiv 16 = (d1 : Int) := by rw [← hd1]; exact Int.ofNat_tdiv c.toNat 16
          have q2 : (c.toNat : Int).tmod 16 = (d2 : Int) := by rw [← hd2]; exact Int.ofNat_tmod c.toNat 16
          have q3 : IntKind.i64.wrap (d1 : Int) = (d1 : Int) := IntWalk.i64_in _ (by omega)
          have q4 : IntKind.i64.wrap (d2 : Int) = (d2 : Int) := IntWalk.i64_in _ (by omega)
          have q5 : (0 : Int) ≤ (d1 : Int) := by omega
          have q6 : (0 : Int) ≤ (d2 : Int) := by omega
          have q7 : (d1 : Int) < 16 := by omega
          have q8 : (d2 : Int) < 16 := by omega
          clear hd1 hd2
          rcases c4 with c4 | ⟨c4, c5⟩
          all_goals
            go_wp2_with (go_at_call 66; refine (letter_any' _ _ _ HLT.out).mono ?_; rintro e w' ⟨rfl, rfl⟩)
            refine wp_region_any (by kernel_rfl) ?_
            change wpAny _ _ _ _ _ _ _ (World.drew _)
            refine wpAny_take (i := 0) (v := u3) rfl (by kernel_rfl) (by kernel_rfl) (by kernel_rfl) (fun _ _ _ h => h) (Or.inl ⟨by kernel_rfl, by intro w; go_simp⟩) ?_
            refine wpAny_take (i := 1) (v := .int .u8 (c.toNat : Int)) rfl (by kernel_rfl) (by kernel_rfl) (by kernel_rfl) (fun _ _ _ h => h) (Or.inl ⟨by kernel_rfl, by intro w; go_simp⟩) ?_
            refine wpAny_take (i := 2) (v := .int .i64 (c.toNat : Int)) rfl (by kernel_rfl) (by kernel_rfl) (by kernel_rfl) (fun _ _ _ h => h) (Or.inl ⟨by kernel_rfl, by intro w; go_simp⟩) ?_
            refine wpAny_take (i := 3) (v := .int .i64 (d1 : Int)) rfl (by kernel_rfl) (by kernel_rfl) (by kernel_rfl) (fun _ _ _ h => h) (Or.inl ⟨by kernel_rfl, by intro w; go_simp⟩) ?_
            refine wpAny_take (i := 4) (v := .int .u8 ((hexD d1).toNat : Int)) rfl (by kernel_rfl) (by kernel_rfl) (by kernel_rfl) (fun _ _ _ h => h) (Or.inl ⟨by kernel_rfl, by intro w; go_simp; rw [hexAt d1 l1]⟩) ?_
            refine wpAny_take (i := 5) (v := .int .u8 (c.toNat : Int)) rfl (by kernel_rfl) (by kernel_rfl) (by kernel_rfl) (fun _ _ _ h => h) (Or.inl ⟨by kernel_rfl, by intro w; go_simp⟩) ?_
            refine wpAny_take (i := 6) (v := .int .i64 (c.toNat : Int)) rfl (by kernel_rfl) (by kernel_rfl) (by kernel_rfl) (fun _ _ _ h => h) (Or.inl ⟨by kernel_rfl, by intro w; go_simp⟩) ?_
            refine wpAny_take (i := 7) (v := .int .i64 (d2 : Int)) rfl (by kernel_rfl) (by kernel_rfl) (by kernel_rfl) (fun _ _ _ h => h) (Or.inl ⟨by kernel_rfl, by intro w; go_simp⟩) ?_
            refine wpAny_take (i := 8) (v := .int .u8 ((hexD d2).toNat : Int)) rfl (by kernel_rfl) (by kernel_rfl) (by kernel_rfl) (fun _ _ _ h => h) (Or.inl ⟨by kernel_rfl, by intro w; go_simp; rw [hexAt d2 l2]⟩) ?_
            refine wpAny_ready (rs := [9]) (by kernel_rfl) (by simp) ?_
            refine AllReady.cons rfl (fun K hK => ?_) AllReady.nil
            go_simp
            refine hK _ _ ?_
            clear hK K
            refine wpAny_ready (rs := [10]) (by kernel_rfl) (by simp) ?_
            refine AllReady.cons rfl (fun K hK => ?_) AllReady.nil
            rw [if_pos (by kernel_rfl)]
            refine wp_append_own _ _ _ 22 rfl w.heap.size 5 i0 (.int .u8 0) 1 1 Try.underlying22 hi hz0 hz1 hz2 rfl (by decide) _ _ _ rfl (World.ownsRow.alloc (own_below HQ.out.own (Below.drew (Below.refl _ _))) _) ⟨wr.heap.size, 0, none⟩ 4 4 [.int .u8 92, .int .u8 120, .int .u8 ((hexD d1).toNat : Int), .int .u8 ((hexD d2).toNat : Int)] rfl rfl (four_cells wr.drew _ _ _ _ _) ?c2 ?c3 ?c4 ?c5 ?_
            case c2 => first | (intro x hx; simp at hx; first | (rcases hx with rfl | rfl | rfl | rfl <;> rfl)) | rfl
            case c3 => unfold maxLen; omega
            case c4 => omega
            case c5 => have := HQ.out.below.size; simp; omega
            intro v' w2 hown' hgrow _
            have HQ2 := hide (HQ.out.push (nb := [92, 120, hexD d1, hexD d2]) (((Below.refl _ _).drew).alloc (Nat.le_refl _) _) hown' hgrow)
            clear hown' hgrow
            refine hK _ _ ?_
            clear hK K
            refine wpAny_ready (rs := [11]) (by kernel_rfl) (by simp) ?_
            refine AllReady.cons rfl (fun K hK => ?_) AllReady.nil
            go_simp
            refine hK _ _ ?_
            clear hK K
            refine wpAny_done (by kernel_rfl) ?_ _
            go_wp2_with fail
            go_roundg (n - (k + 1))
            case measure => rw [hm.out]; omega
            case rel => exact ⟨k + 1, rfl, by omega, rfl, by have h := HQ2; rw [HNX.out] at h; exact h⟩
        · rw [if_neg hpr] at HNX
          rw [UInt8.lt_iff_toNat_lt, UInt8.lt_iff_toNat_lt] at hpr
          have h1 : UInt8.toNat 32 = 32 := rfl
          have h2 : UInt8.toNat 126 = 126 := rfl
          have c4 : (32 : Int) ≤ (c.toNat : Int) := by omega
          have c5 : (c.toNat : Int) ≤ 126 := by omega
          clear hpr h1 h2
          go_wp2_with (first | (go_at_call 66; refine (letter_any' _ _ _ HLT.out).mono ?_; rintro e w' ⟨rfl, rfl⟩) | (at_builtin; refine wpList_append_own _ rfl _ _ 22 rfl w.heap.size 5 i0 (.int .u8 0) 1 1 Try.underlying22 hi hz0 hz1 hz2 rfl (by decide) _ _ _ rfl (HQ.out.own.alloc _) ⟨wr.heap.size, 0, none⟩ 1 1 [.int .u8 (c.toNat : Int)] rfl rfl (cell_one_new _ _ _) ?c2 ?c3 ?c4 ?c5 ?_))
          case c2 => first | (intro x hx; simp at hx; first | (subst hx; rfl) | (rcases hx with rfl | rfl <;> rfl) | (rcases hx with rfl | rfl | rfl | rfl <;> rfl)) | rfl
          case c3 => unfold maxLen; omega
          case c4 => omega
          case c5 => have := HQ.out.below.size; simp; omega
          intro v' w2 hown' hgrow _
          have HQ2 := hide (HQ.out.push (nb := [c]) ((Below.refl _ _).alloc (Nat.le_refl _) _) hown' hgrow)
          clear hown' hgrow
          go_wp2_with fail
          go_roundg (n - (k + 1))
          case measure => rw [hm.out]; omega
          case rel => exact ⟨k + 1, rfl, by omega, rfl, by have h := HQ2; rw [HNX.out] at h; exact h⟩
    · have hlti : ¬ (k : Int) < (n : Int) := by omega
      have hke : k = n := by omega
      subst hke
      have HQ := hide hq.out
      rw [List.take_of_length_le (by have := HN.out; omega)] at HQ
      obtain ⟨acc, hacc⟩ : ∃ acc, 34 :: qBytes t = acc := ⟨_, rfl⟩
      rw [hacc] at HQ
      have hlen : acc.length ≤ 4 * k + 1 := by
        have := qBytes_len t
        have := HN.out
        rw [← hacc]
        simp only [List.length_cons] at this ⊢
        omega
      have HQT := hide (show acc ++ [34] = quoteL t by rw [← hacc]; rfl)
      clear hacc hq
      go_wp2_with (at_builtin; refine wpList_append_own _ rfl _ _ 22 rfl w.heap.size 5 i0 (.int .u8 0) 1 1 Try.underlying22 hi hz0 hz1 hz2 rfl (by decide) _ _ _ rfl (HQ.out.own.alloc _) ⟨wr.heap.size, 0, none⟩ 1 1 [.int .u8 34] rfl rfl (cell_one_new _ _ _) ?c2 ?c3 ?c4 ?c5 ?_)
      case c2 => first | (intro x hx; simp at hx; first | (subst hx; rfl) | (rcases hx with rfl | rfl <;> rfl) | (rcases hx with rfl | rfl | rfl | rfl <;> rfl)) | rfl
      case c3 => unfold maxLen; omega
      case c4 => omega
      case c5 => have := HQ.out.below.size; simp; omega
      intro v' w2 hown' hgrow _
      have HQ2 := hide (HQ.out.push (nb := [34]) ((Below.refl _ _).alloc (Nat.le_refl _) _) hown' hgrow)
      clear hown' hgrow
      obtain ⟨a2, cap, rfl, hrd⟩ := own_reads (bs := acc ++ [34]) HQ2.out.own (by simp; omega)
      have hrb : RB w2 a2 (acc ++ [34]) := RBo.weak (fun _ _ => trivial) hrd
      obtain ⟨m2, hm2⟩ : ∃ m, (acc ++ [34]).length = m := ⟨_, rfl⟩
      have hcv := hrb.str m2 cap hm2.symm
      have HBL := hide HQ2.out.below
      rw [hm2]
      rw [HQT.out] at hcv
      clear HQ2 hrd hrb hm2
      go_wp2_with fail
      go_ret
      exact ⟨rfl, HBL.out⟩
end Go.Proofs.Ytfndldfnlncabaa
