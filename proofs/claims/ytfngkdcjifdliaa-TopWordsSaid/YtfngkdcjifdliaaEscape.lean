/- The walks of words.value and words.escape. -/
import Derived.Test.YtfngkdcjifdliaaWords
import Derived.Test.YtfngkdcjifdliaaWPlain
import Derived.Deep.QuietTactic
import Derived.BigQuiet
namespace Go.Proofs.Ytfngkdcjifdliaa
set_option linter.unnecessarySimpa false
set_option linter.deprecated false
open Go.RowKit
set_option linter.unusedVariables false
set_option linter.unusedSimpArgs false

set_option maxHeartbeats 1000000 in
theorem value_any (c : Int) (w : World) (h0 : 0 ≤ c) (h1 : c ≤ 255) : Calls Try.prog 33 #[.int .u8 c] w fun e w' => e = .returned (.int .i64 (valI c)) ∧ w = w' := by
  by_cases a1 : 48 ≤ c
  · by_cases a2 : c ≤ 57
    · have HV := hide (show valI c = c - 48 by unfold valI; rw [if_pos ⟨a1, a2⟩])
      go_enter Try.func33, Try.ntmps33
      go_wp2_with fail
      go_ret
      exact ⟨ret_int (by rw [HV.out]), rfl⟩
    · by_cases a3 : 97 ≤ c ∧ c ≤ 102
      · have HV := hide (show valI c = c - 97 + 10 by unfold valI; rw [if_neg (by omega), if_pos a3]; omega)
        obtain ⟨a4, a5⟩ := a3
        go_enter Try.func33, Try.ntmps33
        go_wp2_with fail
        go_ret
        exact ⟨ret_int (by rw [HV.out]), rfl⟩
      · by_cases a6 : 65 ≤ c ∧ c ≤ 70
        · have HV := hide (show valI c = c - 65 + 10 by unfold valI; rw [if_neg (by omega), if_neg (by omega), if_pos a6]; omega)
          obtain ⟨a7, a8⟩ := a6
          have a9 : ¬ 97 ≤ c := by omega
          clear a3
          go_enter Try.func33, Try.ntmps33
          go_wp2_with fail
          go_ret
          exact ⟨ret_int (by rw [HV.out]), rfl⟩
        · have HV := hide (show valI c = -1 by unfold valI; rw [if_neg (by omega), if_neg (by omega), if_neg (by omega)])
          have b1 : c < 97 ∨ (97 ≤ c ∧ 102 < c) := by omega
          have b2 : c < 65 ∨ (65 ≤ c ∧ 70 < c) := by omega
          clear a3 a6
          rcases b1 with b1 | ⟨b1, b3⟩ <;> rcases b2 with b2 | ⟨b2, b4⟩
          all_goals
            first
            | omega
            | (go_enter Try.func33, Try.ntmps33
               go_wp2_with fail
               go_ret
               exact ⟨ret_int (by rw [HV.out]), rfl⟩)
  · have HV := hide (show valI c = -1 by unfold valI; rw [if_neg (by omega), if_neg (by omega), if_neg (by omega)])
    have b1 : ¬ 97 ≤ c := by omega
    have b2 : ¬ 65 ≤ c := by omega
    go_enter Try.func33, Try.ntmps33
    go_wp2_with fail
    go_ret
    exact ⟨ret_int (by rw [HV.out]), rfl⟩

theorem drop_at (s : ByteArray) (i : Nat) (h : i < s.size) : s.data.toList.drop i = (s[i]'h) :: s.data.toList.drop (i + 1) :=
  List.drop_eq_getElem_cons (by simpa using h)
theorem list_two (s : ByteArray) (h : 2 ≤ s.size) : s.data.toList = (s[0]'(by omega)) :: (s[1]'(by omega)) :: s.data.toList.drop 2 := by
  have h0 := drop_at s 0 (by omega)
  have h1 := drop_at s 1 (by omega)
  rw [List.drop_zero] at h0
  rw [← h1, ← h0]
theorem list_four (s : ByteArray) (h : 4 ≤ s.size) : s.data.toList.drop 2 = (s[2]'(by omega)) :: (s[3]'(by omega)) :: s.data.toList.drop 4 := by
  have h0 := drop_at s 2 (by omega)
  have h1 := drop_at s 3 (by omega)
  rw [← h1, ← h0]

/-- The answer of escape. -/
def escV (s : ByteArray) : Value := .tuple #[.int .u8 ((escL s.data.toList).1.toNat : Int), .int .i64 ((escL s.data.toList).2 : Int)]
theorem escV_of {s : ByteArray} {b : UInt8} {n : Nat} (h : escL s.data.toList = (b, n)) : escV s = .tuple #[.int .u8 (b.toNat : Int), .int .i64 (n : Int)] := by
  unfold escV
  rw [h]
theorem esc_short (s : ByteArray) (h : s.size < 2) : escL s.data.toList = (0, 0) := by
  have hl := size_len s
  match e : s.data.toList with
  | [] => rfl
  | [a] => rfl
  | a :: b :: r =>
    rw [e] at hl
    simp only [List.length_cons] at hl
    omega
theorem esc_two (s : ByteArray) (h : 2 ≤ s.size) (b : UInt8) (hb : s[1]'(by omega) = b) : escL s.data.toList =
    (if b = 34 ∨ b = 92 then (b, 2) else if b = 110 then (10, 2) else if b = 116 then (9, 2) else if b = 114 then (13, 2)
    else if b = 120 then (match s.data.toList.drop 2 with | x :: y :: _ => if 0 ≤ valI x.toNat ∧ 0 ≤ valI y.toNat then (UInt8.ofNat (16 * valI x.toNat + valI y.toNat).toNat, 4) else (0, 0) | _ => (0, 0))
    else (0, 0)) := by
  subst hb
  conv => lhs; rw [list_two s h]
  rfl
theorem esc_three (s : ByteArray) (h : 2 ≤ s.size) (h4 : ¬ 4 ≤ s.size) (hb : s[1]'(by omega) = 120) : escL s.data.toList = (0, 0) := by
  rw [esc_two s h 120 hb]
  have hl := size_len s
  have hd : (s.data.toList.drop 2).length < 2 := by rw [List.length_drop, hl]; omega
  match e : s.data.toList.drop 2 with
  | [] => rfl
  | [a] => rfl
  | a :: b :: r =>
    rw [e] at hd
    simp only [List.length_cons] at hd
    omega
theorem esc_four (s : ByteArray) (h4 : 4 ≤ s.size) (hb : s[1]'(by omega) = 120) : escL s.data.toList = (if 0 ≤ valI (s[2]'(by omega)).toNat ∧ 0 ≤ valI (s[3]'(by omega)).toNat then (UInt8.ofNat (16 * valI (s[2]'(by omega)).toNat + valI (s[3]'(by omega)).toNat).toNat, 4) else (0, 0)) := by
  rw [esc_two s (by omega) 120 hb, list_four s h4]
  rfl

theorem value_any' (c : Int) (w : World) (h0 : 0 ≤ c) (h1 : c ≤ 255) : Calls Try.prog 33 #[.int .u8 c] w fun e w' => e = .returned (.int .i64 (valI c)) ∧ w' = w :=
  (value_any c w h0 h1).mono fun _ _ ⟨h, h'⟩ => ⟨h, h'.symm⟩
theorem ret_tup {a b : Value} (h : a = b) : Ending.returned a = .returned b := by rw [h]
theorem below_drewN' (w : World) (n : Nat) : Below w.heap.size w (w.drewN n) := ⟨rfl, rfl, rfl, Nat.le_refl _, fun _ _ => rfl⟩

theorem hex_two (a b : Int) (h0 : 0 ≤ a) (h1 : 0 ≤ b) (h2 : a ≤ 15) (h3 : b ≤ 15) : 16 * a + b = ((UInt8.ofNat (16 * a + b).toNat).toNat : Int) := by
  rw [UInt8.toNat_ofNat']
  omega

set_option maxHeartbeats 2000000 in
theorem escape_any (s : ByteArray) (w : World) (hs : s.size ≤ 140737488351232) : Calls Try.prog 27 #[.string s] w fun e w' => e = .returned (escV s) ∧ Below w.heap.size w w' := by
  by_cases h2 : s.size < 2
  · have HV := hide (escV_of (esc_short s h2))
    go_enter Try.func27, Try.ntmps27
    go_wp2_with fail
    go_ret2
    exact ⟨by rw [HV.out]; rfl, Below.refl _ _⟩
  · have h2' : 2 ≤ s.size := by omega
    have h1s : 1 < s.size := by omega
    generalize hb : s[1]'h1s = b
    have hbr := b.toNat_lt
    have HE := hide (esc_two s h2' b hb)
    have hne : ∀ x : UInt8, b ≠ x → ((b.toNat : Int) == (x.toNat : Int)) = false := fun x hx => by
      rw [beq_eq_false_iff_ne]
      intro e
      exact hx (UInt8.toNat_inj.1 (by omega))
    by_cases b1 : b = 34
    · have HV := hide (escV_of (HE.out.trans (by rw [if_pos (Or.inl b1)])))
      have e1 : ((b.toNat : Int) == 34) = true := by rw [b1]; rfl
      clear b1 hne
      go_enter Try.func27, Try.ntmps27
      go_wp2_with fail
      go_ret2
      exact ⟨by rw [HV.out]; rfl, Below.refl _ _⟩
    have e1 : ((b.toNat : Int) == 34) = false := hne 34 b1
    by_cases b2 : b = 92
    · have HV := hide (escV_of (HE.out.trans (by rw [if_pos (Or.inr b2)])))
      have e2 : ((b.toNat : Int) == 92) = true := by rw [b2]; rfl
      clear b1 b2 hne
      go_enter Try.func27, Try.ntmps27
      go_wp2_with fail
      go_ret2
      exact ⟨by rw [HV.out]; rfl, Below.refl _ _⟩
    have e2 : ((b.toNat : Int) == 92) = false := hne 92 b2
    have b12 : ¬ (b = 34 ∨ b = 92) := fun h => h.elim b1 b2
    by_cases b3 : b = 110
    · have HV := hide (escV_of (HE.out.trans (by rw [if_neg b12, if_pos b3])))
      have e3 : ((b.toNat : Int) == 110) = true := by rw [b3]; rfl
      clear b1 b2 b3 b12 hne
      go_enter Try.func27, Try.ntmps27
      go_wp2_with fail
      go_ret2
      exact ⟨by rw [HV.out]; rfl, Below.refl _ _⟩
    have e3 : ((b.toNat : Int) == 110) = false := hne 110 b3
    by_cases b4 : b = 116
    · have HV := hide (escV_of (HE.out.trans (by rw [if_neg b12, if_neg b3, if_pos b4])))
      have e4 : ((b.toNat : Int) == 116) = true := by rw [b4]; rfl
      clear b1 b2 b3 b4 b12 hne
      go_enter Try.func27, Try.ntmps27
      go_wp2_with fail
      go_ret2
      exact ⟨by rw [HV.out]; rfl, Below.refl _ _⟩
    have e4 : ((b.toNat : Int) == 116) = false := hne 116 b4
    by_cases b5 : b = 114
    · have HV := hide (escV_of (HE.out.trans (by rw [if_neg b12, if_neg b3, if_neg b4, if_pos b5])))
      have e5 : ((b.toNat : Int) == 114) = true := by rw [b5]; rfl
      clear b1 b2 b3 b4 b5 b12 hne
      go_enter Try.func27, Try.ntmps27
      go_wp2_with fail
      go_ret2
      exact ⟨by rw [HV.out]; rfl, Below.refl _ _⟩
    have e5 : ((b.toNat : Int) == 114) = false := hne 114 b5
    by_cases b6 : b = 120
    · have e6 : ((b.toNat : Int) == 120) = true := by rw [b6]; rfl
      by_cases h4 : 4 ≤ s.size
      · have hE4 := esc_four s h4 (hb.trans b6)
        have hl2 : 2 < s.size := by omega
        have hl3 : 3 < s.size := by omega
        generalize hx : s[2]'hl2 = x at hE4
        generalize hy : s[3]'hl3 = y at hE4
        have hxr := x.toNat_lt
        have hyr := y.toNat_lt
        have hxl := valI_le x.toNat
        have hyl := valI_le y.toNat
        have HXE := hide hE4
        have q1 : (0 : Int) ≤ x.toNat := by omega
        have q2 : (x.toNat : Int) ≤ 255 := by omega
        have q3 : (0 : Int) ≤ y.toNat := by omega
        have q4 : (y.toNat : Int) ≤ 255 := by omega
        obtain ⟨hx1, hx2⟩ := hxl
        obtain ⟨hy1, hy2⟩ := hyl
        clear hE4 b1 b2 b3 b4 b5 b6 b12 hne hbr hxr hyr
        by_cases v1 : 0 ≤ valI x.toNat
        · by_cases v2 : 0 ≤ valI y.toNat
          · have HV := hide (escV_of (HXE.out.trans (if_pos ⟨v1, v2⟩)))
            go_enter Try.func27, Try.ntmps27
            go_wp2_with (first | (go_at_call 33; refine (value_any _ _ (by assumption) (by assumption)).mono ?_; rintro e w' ⟨rfl, rfl⟩))
            go_quiet ((go_at_call 33; exact Calls.quiet_of_same (value_any' _ _ (by assumption) (by assumption))))
            go_wp2_with fail
            go_ret2
            refine ⟨?_, below_drewN' _ _⟩
            rw [HV.out]
            exact ret_tup (congrArg (fun z => Value.tuple #[.int .u8 z, .int .i64 4]) (hex_two _ _ v1 v2 hx2 hy2))
          · have HV := hide (escV_of (HXE.out.trans (if_neg (fun h => v2 h.2))))
            go_enter Try.func27, Try.ntmps27
            go_wp2_with (first | (go_at_call 33; refine (value_any _ _ (by assumption) (by assumption)).mono ?_; rintro e w' ⟨rfl, rfl⟩))
            go_ret2
            exact ⟨by rw [HV.out]; rfl, Below.refl _ _⟩
        · have HV := hide (escV_of (HXE.out.trans (if_neg (fun h => v1 h.1))))
          go_enter Try.func27, Try.ntmps27
          go_wp2_with (first | (go_at_call 33; refine (value_any _ _ (by assumption) (by assumption)).mono ?_; rintro e w' ⟨rfl, rfl⟩))
          go_ret2
          exact ⟨by rw [HV.out]; rfl, Below.refl _ _⟩
      · have HV := hide (escV_of (esc_three s h2' h4 (hb.trans b6)))
        clear b1 b2 b3 b4 b5 b6 b12 hne
        go_enter Try.func27, Try.ntmps27
        go_wp2_with fail
        go_ret2
        exact ⟨by rw [HV.out]; rfl, Below.refl _ _⟩
    have e6 : ((b.toNat : Int) == 120) = false := hne 120 b6
    have HV := hide (escV_of (HE.out.trans (by rw [if_neg b12, if_neg b3, if_neg b4, if_neg b5, if_neg b6])))
    clear b1 b2 b3 b4 b5 b6 b12 hne
    go_enter Try.func27, Try.ntmps27
    go_wp2_with fail
    go_ret2
    exact ⟨by rw [HV.out]; rfl, Below.refl _ _⟩
end Go.Proofs.Ytfngkdcjifdliaa
