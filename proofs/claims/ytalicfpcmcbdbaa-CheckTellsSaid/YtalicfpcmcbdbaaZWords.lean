/- The walks of the letters, of a run of letters, and of names (package words). -/
import Derived.Test.YtalicfpcmcbdbaaZData
import Derived.Test.YtalicfpcmcbdbaaZWPlain
namespace Go.Proofs.Ytalicfpcmcbdbaa
set_option linter.unnecessarySimpa false
set_option linter.deprecated false
open Go.RowKit
set_option linter.unusedVariables false
set_option linter.unusedSimpArgs false

def greatI (r : Int) : Bool := decide (65 ≤ r) && decide (r ≤ 90)
def smallI (r : Int) : Bool := decide (97 ≤ r) && decide (r ≤ 122)
def digitI (r : Int) : Bool := decide (48 ≤ r) && decide (r ≤ 57)
theorem greatI_nat (n : Nat) : greatI n = greatB n := by unfold greatI greatB; rw [Bool.eq_iff_iff]; simp; omega
theorem smallI_nat (n : Nat) : smallI n = smallB n := by unfold smallI smallB; rw [Bool.eq_iff_iff]; simp; omega
theorem digitI_nat (n : Nat) : digitI n = digitB n := by unfold digitI digitB; rw [Bool.eq_iff_iff]; simp; omega
theorem inner_of_high (r : Int) (h : 128 ≤ r) : greatI r = false ∧ smallI r = false ∧ digitI r = false := by
  unfold greatI smallI digitI
  refine ⟨?_, ?_, ?_⟩ <;> simp <;> omega

set_option maxHeartbeats 400000 in
theorem great_any (r : Int) (w : World) : Calls Try.prog 104 #[.int .i32 r] w fun e w' => e = .returned (.bool (greatI r)) ∧ w = w' := by
  unfold greatI
  go_enter Try.func104, Try.ntmps104
  go_wp2
  all_goals (go_ret; refine ⟨?_, rfl⟩; simp_all; try omega)
set_option maxHeartbeats 400000 in
theorem small_any (r : Int) (w : World) : Calls Try.prog 108 #[.int .i32 r] w fun e w' => e = .returned (.bool (smallI r)) ∧ w = w' := by
  unfold smallI
  go_enter Try.func108, Try.ntmps108
  go_wp2
  all_goals (go_ret; refine ⟨?_, rfl⟩; simp_all; try omega)
set_option maxHeartbeats 400000 in
theorem digit_any (r : Int) (w : World) : Calls Try.prog 109 #[.int .i32 r] w fun e w' => e = .returned (.bool (digitI r)) ∧ w = w' := by
  unfold digitI
  go_enter Try.func109, Try.ntmps109
  go_wp2
  all_goals (go_ret; refine ⟨?_, rfl⟩; simp_all; try omega)

def runAt (s : ByteArray) (p : Nat) : Prop := p ≤ s.size ∧ ∀ i (h : i < s.size), i < p → alnumB s[i] = true
theorem runAt_stop {s : ByteArray} {p : Nat} (h : runAt s p) (hp : p < s.size) (hn : alnumB (s[p]'hp) = false) : runLen s.data.toList = p :=
  runLen_at s.data.toList p (by simpa using hp) (fun i hi hip => h.2 i (by simpa using hi) hip) hn
theorem runAt_end {s : ByteArray} {p : Nat} (h : runAt s p) (hp : ¬ p < s.size) : runLen s.data.toList = s.size := by
  have := runLen_all s.data.toList (fun i hi => h.2 i (by simpa using hi) (by have : i < s.size := by simpa using hi
                                                                              omega))
  simpa using this
theorem runAt_next {s : ByteArray} {p : Nat} (h : runAt s p) (hp : p < s.size) (hn : alnumB (s[p]'hp) = true) : runAt s (p + 1) :=
  ⟨by omega, fun i hi hip => by
    by_cases e : i = p
    · subst e; exact hn
    · exact h.2 i hi (by omega)⟩
theorem below_iter (w : World) (s : ByteArray) (p : Nat) : Below w.heap.size w (w.iter s p) := (Below.refl _ w).alloc (Nat.le_refl _) _
set_option maxHeartbeats 1000000 in
theorem run_any (s : ByteArray) (w : World) :
    Calls Try.prog 105 #[.string s] w fun e w' => e = .returned (.int .i64 (runLen s.data.toList)) ∧ Below w.heap.size w w' := by
  go_enter Try.func105, Try.ntmps105
  go_wp2_with fail
  go_loopw [3, 4] (fun _ _ wr => ∃ p : Nat, wr = w.iter s p ∧ Hid (runAt s p)) (fun _ _ wr => s.size - wr.iterPos w.heap.size)
  case atStart => exact ⟨0, rfl, Nat.zero_le _, fun _ _ h => absurd h (Nat.not_lt_zero _)⟩
  case round =>
    obtain ⟨p, rfl, hrun⟩ := hrel
    by_cases hp : p < s.size
    · by_cases ha : (s[p]'hp).toNat < 128
      · have hnx := fun ty => run_next_ascii (P := Try.prog) w s p ty hp ha
        have hg0 := greatI_nat (s[p]'hp).toNat
        have hs0 := smallI_nat (s[p]'hp).toNat
        have hd0 := digitI_nat (s[p]'hp).toNat
        have hal : alnumB (s[p]'hp) = (greatB (s[p]'hp).toNat || smallB (s[p]'hp).toNat || digitB (s[p]'hp).toNat) := rfl
        have HAL : Hid (alnumB (s[p]'hp) = (greatI (s[p]'hp).toNat || smallI (s[p]'hp).toNat || digitI (s[p]'hp).toNat)) := by rw [hg0, hs0, hd0]; exact hal
        clear hg0 hs0 hd0 hal
        cases hg : greatI ((s[p]'hp).toNat : Int) <;> cases hsm : smallI ((s[p]'hp).toNat : Int) <;> cases hd : digitI ((s[p]'hp).toNat : Int)
        all_goals
          go_wp2_with (first | (go_at_call 104; refine (great_any _ _).mono ?_; rintro e w' ⟨rfl, rfl⟩) | (go_at_call 108; refine (small_any _ _).mono ?_; rintro e w' ⟨rfl, rfl⟩) | (go_at_call 109; refine (digit_any _ _).mono ?_; rintro e w' ⟨rfl, rfl⟩))
          first
          | (go_ret; exact ⟨ret_int (by rw [runAt_stop hrun.out hp (by rw [HAL.out, hg, hsm, hd]; rfl)]), below_iter _ _ _⟩)
          | (go_roundw
             case rel => exact ⟨p + 1, rfl, runAt_next hrun.out hp (by rw [HAL.out, hg, hsm, hd]; rfl)⟩
             case measure => simp; omega)
      · have hnx := fun ty => run_next_any (P := Try.prog) w s p ty hp
        obtain ⟨hr, hwd⟩ := decode_high s p hp (by omega)
        obtain ⟨hg, hsm, hd⟩ := inner_of_high (Utf8.decode s p).1 (by omega)
        have hn : alnumB (s[p]'hp) = false := by
          simp only [alnumB, greatB, smallB, digitB]
          simp
          omega
        have HN : Hid (runLen s.data.toList = p) := runAt_stop hrun.out hp hn
        clear hn
        go_wp2_with (first | (go_at_call 104; refine (great_any _ _).mono ?_; rintro e w' ⟨rfl, rfl⟩) | (go_at_call 108; refine (small_any _ _).mono ?_; rintro e w' ⟨rfl, rfl⟩) | (go_at_call 109; refine (digit_any _ _).mono ?_; rintro e w' ⟨rfl, rfl⟩))
        go_ret
        exact ⟨ret_int (by rw [HN.out]), below_iter _ _ _⟩
    · have hnx := fun ty => run_next_end (P := Try.prog) w s p ty hp
      go_wp2_with fail
      go_ret
      exact ⟨ret_int (by rw [runAt_end hrun.out hp]), below_iter _ _ _⟩

theorem byte_ne {c x : UInt8} (h : c ≠ x) : ((c.toNat : Int) == (x.toNat : Int)) = false := by
  rw [beq_eq_false_iff_ne]
  intro e
  exact h (UInt8.toNat_inj.1 (by omega))
theorem wrap32_byte (c : UInt8) : wrap32 (c.toNat : Int) = c.toNat := by
  have := c.toNat_lt
  unfold wrap32
  omega
theorem isNameL_nil (s : ByteArray) (h : s.size = 0) : isNameL s.data.toList = false := by
  rw [toList_nil h]; rfl
theorem isNameL_of (s : ByteArray) (h : 0 < s.size) : isNameL s.data.toList = (decide (s.size ≤ 32) && greatI ((s[0]'h).toNat : Int) && decide ((runLen s.data.toList : Int) = (s.size : Int))) := by
  have hne : s.data.toList ≠ [] := toList_ne h
  have hl : s.data.toList.length = s.size := by simp
  have hh : s.data.toList.headD 0 = s[0]'h := by
    rw [List.headD_eq_head?_getD, List.head?_eq_getElem?, List.getElem?_eq_getElem (by rw [hl]; exact h)]; rfl
  have hr := runLen_eq_length s.data.toList
  rw [hl] at hr
  have hr' : decide ((runLen s.data.toList : Int) = (s.size : Int)) = s.data.toList.all alnumB := by
    rw [Bool.eq_iff_iff, ← hr, decide_eq_true_eq]
    exact Int.ofNat_inj
  rw [hr', greatI_nat]
  unfold isNameL
  rw [hh, hl]
  cases e : s.data.toList with
  | nil => exact absurd e hne
  | cons a l => simp


set_option maxHeartbeats 1000000 in
theorem isName_any (s : ByteArray) (w : World) (hs : s.size ≤ 140737488351232) :
    Calls Try.prog 99 #[.string s] w fun e w' => e = .returned (.bool (isNameL s.data.toList)) ∧ Below w.heap.size w w' := by
  by_cases h0 : s.size = 0
  · have hN := hide (isNameL_nil s h0)
    have he : s.toList = [] := by rw [ByteArray.toList_eq]; exact toList_nil h0
    have he2 : s.toList.isEmpty = true := by rw [he]; rfl
    go_enter Try.func99, Try.ntmps99
    go_wp2_with fail
    go_ret
    exact ⟨ret_bool (by rw [hN.out]), Below.refl _ _⟩
  · have hp : 0 < s.size := by omega
    have hN := hide (isNameL_of s hp)
    have he2 : s.toList.isEmpty = false := by rw [ByteArray.toList_eq, List.isEmpty_eq_false_iff]; exact toList_ne hp
    have he : ¬ s.toList = [] := by intro e; rw [e] at he2; cases he2
    have hw := wrap32_byte (s[0]'hp)
    by_cases hl : s.size ≤ 32
    · cases hg : greatI ((s[0]'hp).toNat : Int)
      · go_enter Try.func99, Try.ntmps99
        go_wp2_with (first | (go_at_call 104; refine (great_any _ _).mono ?_; rintro e w' ⟨rfl, rfl⟩))
        go_ret
        exact ⟨ret_bool (by rw [hN.out, hg]; simp), Below.refl _ _⟩
      · go_enter Try.func99, Try.ntmps99
        go_wp2_with (first | (go_at_call 104; refine (great_any _ _).mono ?_; rintro e w' ⟨rfl, rfl⟩) | (go_at_call 105; refine (run_any _ _).mono ?_; rintro e w' ⟨rfl, hb⟩))
        go_ret
        refine ⟨ret_bool ?_, hb⟩
        rw [hN.out, hg, decide_eq_true hl]
        rfl
    · go_enter Try.func99, Try.ntmps99
      go_wp2_with fail
      go_ret
      exact ⟨ret_bool (by rw [hN.out, decide_eq_false hl]; rfl), Below.refl _ _⟩
end Go.Proofs.Ytalicfpcmcbdbaa
