/- The walk of the set's reader: char, where it reads a byte's sign. -/
import Derived.Test.YtfngkdcjifdliaaChars
set_option linter.unusedVariables false
set_option linter.unusedSimpArgs false
set_option linter.unnecessarySimpa false
set_option linter.deprecated false
namespace Go.Proofs.Ytfngkdcjifdliaa
open Go.RowKit

theorem val_hex : ∀ q, q < 16 → valI (hexD q).toNat = q
  | 0, _ | 1, _ | 2, _ | 3, _ | 4, _ | 5, _ | 6, _ | 7, _ | 8, _ | 9, _ | 10, _ | 11, _ | 12, _ | 13, _ | 14, _ | 15, _ => by decide +kernel
  | q + 16, h => by omega
/-- A sign is plain, or an escape. -/
theorem sign_two (b : Nat) (hb : b ≤ 255) :
    (signL b = [UInt8.ofNat b] ∧ 32 < b ∧ b < 127 ∧ b ≠ 91 ∧ b ≠ 93 ∧ b ≠ 92 ∧ b ≠ 45 ∧ b ≠ 94) ∨ ∃ c r, signL b = 92 :: c :: r ∧ ∀ rest, escOk c (r ++ rest) (b : Int) (signL b).length := by
  unfold signL escOk
  by_cases k1 : b = 10
  · subst k1; right; exact ⟨_, _, rfl, fun rest => by simp⟩
  by_cases k2 : b = 9
  · subst k2; right; exact ⟨_, _, rfl, fun rest => by simp⟩
  by_cases k3 : b = 13
  · subst k3; right; exact ⟨_, _, rfl, fun rest => by simp⟩
  by_cases k4 : b = 32
  · subst k4; right; exact ⟨_, _, rfl, fun rest => by simp⟩
  rw [if_neg k1, if_neg k2, if_neg k3, if_neg k4]
  by_cases k5 : b = 91 ∨ b = 93 ∨ b = 92 ∨ b = 45 ∨ b = 94
  · rw [if_pos k5]
    right
    refine ⟨_, _, rfl, fun rest => ?_⟩
    rcases k5 with rfl | rfl | rfl | rfl | rfl <;> simp
  · rw [if_neg k5]
    by_cases k6 : 32 < b ∧ b < 127
    · rw [if_pos k6]
      left
      exact ⟨rfl, k6.1, k6.2, by omega, by omega, by omega, by omega, by omega⟩
    · rw [if_neg k6]
      right
      refine ⟨_, _, rfl, fun rest => ?_⟩
      have h1 := val_hex (b / 16) (by omega)
      have h2 := val_hex (b % 16) (by omega)
      iterate 9 right
      refine ⟨rfl, rfl, _, _, rest, rfl, ?_, ?_, ?_⟩
      · rw [h1]; omega
      · rw [h2]; omega
      · rw [h1, h2]; omega

theorem RdS.called {rb h : Nat} {text : ByteArray} {u u' : Int} {w W W' : World} (s : RdS rb h text u w W) (hr : rb < w.heap.size) (hb : Blk W' rb #[.string text, .int .i64 u'] 81) (hw : Wrote (fun k _ => k = rb) W W') : RdS rb h text u' w W' :=
  ⟨hb, hw.block h _ s.2.1 (fun _ _ _ _ => by have := s.2.2.2; omega), s.2.2.1.trans hw, s.2.2.2⟩
theorem RdS.at_ {rb h : Nat} {text : ByteArray} {u u' : Int} {w W : World} (s : RdS rb h text u w W) (hr : rb < w.heap.size) : RdS rb h text u' w (W.setCell ⟨rb, 1, none⟩ (.int .i64 u')) :=
  s.called hr (s.1.set 1 _) (wrote_set s.1)
theorem RdS.drewN {rb h : Nat} {text : ByteArray} {u : Int} {w W : World} (s : RdS rb h text u w W) (n : Nat) : RdS rb h text u w (W.drewN n) := ⟨s.1, s.2.1, s.2.2.1.trans (Wrote.draw _ _ _), s.2.2.2⟩
theorem RdS.fin {rb h n : Nat} {text : ByteArray} {v : Int} {w W : World} (s : RdS rb h text (n : Int) w W) : RdP rb text n v w (.returned (.tuple #[.int .i64 v, .agg #[.int .i64 0, .int .i64 0]])) W := ⟨rfl, s.1, s.2.2.1⟩
theorem RdS.new {rb : Nat} {text : ByteArray} {u : Int} {w : World} (hb : Blk w rb #[.string text, .int .i64 u] 81) : RdS rb w.heap.size text u w (w.alloc (.cells #[.int .i64 0, .int .i64 0] 30)) := ⟨hb.alloc _, Blk.new w _ _, Wrote.alloc _ _ _, Nat.le_refl _⟩

set_option maxHeartbeats 4000000 in
set_option maxRecDepth 100000 in
theorem char_ok (rb : Nat) (text : ByteArray) (n b : Nat) (rest : List UInt8) (w : World) (hb : Blk w rb #[.string text, .int .i64 (n : Int)] 81) (h255 : b ≤ 255) (ht : text.data.toList.drop n = signL b ++ rest) (hs : text.size ≤ 100000) :
    Calls Try.prog 38 #[.pointer (some ⟨rb, 0, none⟩)] w (RdP rb text (n + (signL b).length) (b : Int) w) := by
  have hl0 : 0 < (signL b).length := by rcases sign_two b h255 with h | ⟨c, r, h, _⟩ <;> simp [h]
  have hlen := congrArg List.length ht
  rw [List.length_drop, List.length_append, size_len text] at hlen
  have hns : n < text.size := by omega
  have hni : (n : Int) < (text.size : Int) := by omega
  have hnd : decide (text.size ≤ n) = false := decide_eq_false (by omega)
  have hni2 : (n : Int) + 2 ≤ 200000 := by omega
  have hn0 : (0 : Int) ≤ (n : Int) := by omega
  obtain ⟨c0, hc0⟩ : ∃ c, text[n]'hns = c := ⟨_, rfl⟩
  have hcl : c0 = (signL b ++ rest)[0]'(by rw [List.length_append]; omega) := by
    rw [← hc0, byte_at rfl]
    have := List.getElem_drop (xs := text.data.toList) (i := n) (j := 0) (h := by rw [List.length_drop, size_len text]; omega)
    simp only [Nat.add_zero] at this
    rw [← this]
    simp only [ht]
  have e0 := hb.cell 0
  have e1 := hb.cell 1
  have el := hb.lt
  have f1 := hb.free 1
  have HB := hide hb
  have HT := hide ht
  have HE := hide el
  rcases sign_two b h255 with ⟨hsg, g1, g2, g3, g4, g5, g6, g7⟩ | ⟨c, r, hsg, hes⟩
  · have hb8 : (c0.toNat : Int) = (b : Int) := by
      rw [hcl]
      simp only [hsg]
      show (((UInt8.ofNat b).toNat : Nat) : Int) = (b : Int)
      rw [UInt8.toNat_ofNat']
      omega
    have hb9 : c0.toNat = b := by omega
    have hcN : (text[n]'hns).toNat = b := by rw [hc0]; exact hb9
    have t1 : ((b : Int) == 92) = false := by rw [beq_eq_false_iff_ne]; omega
    have t2 : ((b : Int) == 91) = false := by rw [beq_eq_false_iff_ne]; omega
    have t3 : ((b : Int) == 93) = false := by rw [beq_eq_false_iff_ne]; omega
    have t4 : ((b : Int) == 45) = false := by rw [beq_eq_false_iff_ne]; omega
    have t5 : ((b : Int) == 94) = false := by rw [beq_eq_false_iff_ne]; omega
    have t6 : ¬ (b : Int) < 33 := by omega
    have t7 : ¬ 126 < (b : Int) := by omega
    have hbw : (b : Int) ≤ 200 := by omega
    have hl1 : (signL b).length = 1 := by rw [hsg]; rfl
    rw [hl1]
    clear hb8 hb9 hl0 hlen hcl hc0 c0 ht hb hsg g1 g2 g3 g4 g5 g6 g7 hl1
    go_enter Try.func38, Try.ntmps38
    go_upto_region 1 with fail
    go_quiet (fail)
    obtain ⟨nq_1, hq⟩ : ∃ k, k = nq := ⟨_, rfl⟩
    rw [← hq]
    clear hq
    go_upto_region 3 with fail
    go_quiet (fail)
    go_upto_region 6 with fail
    have hS : RdS rb w.heap.size text (n : Int) w ((w.alloc (.cells #[.int .i64 0, .int .i64 0] 30)).drewN (nq_1 + nq)) := (RdS.new HB.out).drewN _
    generalize (w.alloc (.cells #[.int .i64 0, .int .i64 0] 30)).drewN (nq_1 + nq) = w1 at hS ⊢
    clear e0 e1 el f1
    have e0 := hS.1.cell 0
    have e1 := hS.1.cell 1
    have el := hS.1.lt
    have f1 := hS.1.free 1
    have z0 := hS.c0
    have z1 := hS.c1
    have y0 := hS.f0
    have y1 := hS.f1
    have HS := hide hS
    clear hS
    go_upto_region 9 with fail
    have HT1 := hide (HS.out.at_ (u' := (n : Int) + 1) HE.out)
    have hT := HT1.out
    generalize w1.setCell ⟨rb, 1, none⟩ (.int .i64 ((n : Int) + 1)) = w2 at hT HT1 ⊢
    clear e0 e1 el f1 z0 z1 y0 y1
    have z0 := hT.c0
    have z1 := hT.c1
    have y0 := hT.f0
    have y1 := hT.f1
    clear hT
    go_wp2_with fail
    refine ret38 (k := w.heap.size) rfl rfl rfl (HT1.out.store HE.out).2.1 ?_
    exact (HT1.out.store HE.out).fin
  · have h92 : c0 = 92 := by rw [hcl]; simp [hsg]
    subst h92
    have HC := hide (fun W (hB : Blk W rb #[.string text, .int .i64 (n : Int)] 81) => escaped_ok rb text n (signL b).length c (r ++ rest) b W hB (by rw [ht, hsg]; rfl) hs (hes rest))
    clear hl0 hlen hcl ht hb hsg hes
    go_enter Try.func38, Try.ntmps38
    go_upto_region 1 with fail
    go_quiet (fail)
    obtain ⟨nq_1, hq⟩ : ∃ k, k = nq := ⟨_, rfl⟩
    rw [← hq]
    clear hq
    go_upto_region 3 with fail
    go_quiet (fail)
    go_upto_region 5 with fail
    have hS : RdS rb w.heap.size text (n : Int) w ((w.alloc (.cells #[.int .i64 0, .int .i64 0] 30)).drewN (nq_1 + nq)) := (RdS.new HB.out).drewN _
    generalize (w.alloc (.cells #[.int .i64 0, .int .i64 0] 30)).drewN (nq_1 + nq) = w1 at hS ⊢
    clear e0 e1 el f1
    have HS := hide hS
    clear hS
    go_wp2_with fail
    refine (HC.out _ HS.out.1).mono ?_
    rintro e w2 ⟨rfl, hcw⟩
    have hT := HS.out.called HE.out hcw.out.1 hcw.out.2
    have z0 := hT.c0
    have z1 := hT.c1
    have y0 := hT.f0
    have y1 := hT.f1
    have HTT := hide hT
    clear hT
    go_wp2_with fail
    refine ret38 (k := w.heap.size) rfl rfl rfl (HTT.out.store HE.out).2.1 ?_
    exact (HTT.out.store HE.out).fin
end Go.Proofs.Ytfngkdcjifdliaa
