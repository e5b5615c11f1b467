/- The walk of the reader's method name. -/
import Derived.Test.YtfndldfnlncabaaPeek
namespace Go.Proofs.Ytfndldfnlncabaa
set_option linter.unnecessarySimpa false
set_option linter.deprecated false
open Go.RowKit
set_option linter.unusedVariables false
set_option linter.unusedSimpArgs false

/-- What name hands back. -/
def NamePost (g : Nat) (s : ByteArray) (r : PR (List UInt8)) (e : Ending) (w' : World) : Prop :=
  match r with
  | .ok nm l => e = .returned (.string ⟨nm.toArray⟩) ∧ Rd w' g s (s.size - l.length)
  | .bad m code => e = faultP ((s.size - m : Nat) : Int) code

structure NameRel (g : Nat) (s : ByteArray) (w : World) (p n : Nat) (q : Nat) (wr : World) : Prop where
  rd : Rd wr g s q
  fr : Fr g w wr
  le : q ≤ s.size
  ge : p ≤ q
  eq : runLen (s.data.toList.drop q) + (q - p) = n

theorem runLen_cons (c : UInt8) (r : List UInt8) : runLen (c :: r) = if alnumB c = true then runLen r + 1 else 0 := by
  simp only [runLen, List.takeWhile_cons]
  split <;> rfl
theorem alnum_class (c : UInt8) : (alnumB c = true ∧ ((48 ≤ (c.toNat : Int) ∧ (c.toNat : Int) ≤ 57) ∨ (65 ≤ (c.toNat : Int) ∧ (c.toNat : Int) ≤ 90) ∨ (97 ≤ (c.toNat : Int) ∧ (c.toNat : Int) ≤ 122))) ∨
    (alnumB c = false ∧ ((c.toNat : Int) < 48 ∨ (57 < (c.toNat : Int) ∧ (c.toNat : Int) < 65) ∨ (90 < (c.toNat : Int) ∧ (c.toNat : Int) < 97) ∨ 122 < (c.toNat : Int))) := by
  unfold alnumB greatB smallB digitB
  cases h : (decide (65 ≤ c.toNat) && decide (c.toNat ≤ 90) || decide (97 ≤ c.toNat) && decide (c.toNat ≤ 122) || decide (48 ≤ c.toNat) && decide (c.toNat ≤ 57))
  · right
    simp at h
    refine ⟨rfl, ?_⟩
    omega
  · left
    simp at h
    refine ⟨rfl, ?_⟩
    omega

set_option maxHeartbeats 8000000 in
set_option maxRecDepth 100000 in
theorem name_any (g : Nat) (s : ByteArray) (p : Nat) (w : World) (hs : s.size ≤ 65536) (hp : p ≤ s.size) (hr : Rd w g s p) :
    Calls Try.prog 57 #[.pointer (some ⟨g, 0, none⟩)] w fun e w' => NamePost g s (nameL (s.data.toList.drop p)) e w' ∧ Fr g w w' := by
  obtain ⟨n, hn⟩ : ∃ n, runLen (s.data.toList.drop p) = n := ⟨_, rfl⟩
  have HN := hide hn
  have HR := hide (show NameRel g s w p n p w from ⟨hr, Fr.refl _ _, hp, Nat.le_refl _, by omega⟩)
  have c0 := hr.cell0
  have c1 := hr.cell1
  have hlt := hr.lt
  clear hn hr
  go_enter Try.func57, Try.ntmps57
  go_wp2_with fail
  clear c0 c1 hlt
  go_loopg [4] (s.size - p) (fun k _ wr => ∃ q, Hid (k = s.size - q) ∧ Hid (NameRel g s w p n q wr))
  case atStart => exact ⟨p, rfl, HR.out⟩
  case round =>
    obtain ⟨q, hk, hq⟩ := hrel
    have c0 := hq.out.rd.cell0
    have c1 := hq.out.rd.cell1
    have z1 := hq.out.rd.free1
    have hlt := hq.out.rd.lt
    have hle := hq.out.le
    have hge := hq.out.ge
    by_cases hqs : q < s.size
    · have hqi : (q : Int) < (s.size : Int) := by omega
      generalize hc : s[q]'hqs = c
      have hlo : (0 : Int) ≤ (c.toNat : Int) := by omega
      have hhi : (c.toNat : Int) ≤ 255 := by have := c.toNat_lt; omega
      have HE := hide (show runLen (s.data.toList.drop q) = if alnumB c = true then runLen (s.data.toList.drop (q + 1)) + 1 else 0 by rw [drop_at s q hqs, hc, runLen_cons])
      rcases alnum_class c with ⟨ha, hcl⟩ | ⟨ha, hcl⟩
      · have HA := hide ha
        clear ha
        rcases hcl with ⟨d1, d2⟩ | ⟨d1, d2⟩ | ⟨d1, d2⟩
        all_goals
          go_wp2_with fail
          go_quiet (fail)
          go_wp2_with fail
          go_quiet (fail)
          go_wp2_with fail
          go_roundg (s.size - (q + 1))
          case measure => rw [hk.out]; omega
          case rel =>
            refine ⟨q + 1, rfl, hide ⟨?_, ?_, hqs, by omega, ?_⟩⟩
            · exact Rd.set (hq.out.rd.drewNS) (q + 1) (by omega)
            · exact (by repeat (first | exact hq.out.fr | (refine Fr.drewNS ?_) | (refine Fr.setS ?_)))
            · have h := hq.out.eq
              rw [HE.out, HA.out, if_pos rfl] at h
              omega
      · have HQ := hide (show q - p = n from by
          have h := hq.out.eq
          rw [HE.out, ha] at h
          simp only [Bool.false_eq_true, if_false] at h
          omega)
        clear ha
        rcases hcl with d1 | ⟨d1, d2⟩ | ⟨d1, d2⟩ | d1
        all_goals
          try have q1 : decide ((c.toNat : Int) ≤ 57) = false := decide_eq_false (by omega)
          try have q2 : decide ((c.toNat : Int) ≤ 90) = false := decide_eq_false (by omega)
          try have q3 : decide ((c.toNat : Int) ≤ 122) = false := decide_eq_false (by omega)
          by_cases hlong : q - p ≤ 32
          · have hL := hide hlong
            have hgt : ¬ (32 : Int) < (q : Int) - (p : Int) := by omega
            have hpq : (p : Int) ≤ (q : Int) := by omega
            have hqe : (q : Int) ≤ (s.size : Int) := by omega
            have HF := hide (show nameL (s.data.toList.drop p) = .ok (s.extract p q).data.toList (s.data.toList.drop q) from by
              unfold nameL
              rw [HN.out, ← HQ.out, if_pos hlong, Lib.extract_data, List.drop_drop]
              rw [show p + (q - p) = q from by omega])
            clear hlong
            go_wp2_with fail
            go_quiet (fail)
            go_wp2_with fail
            go_quiet (fail)
            go_wp2_with fail
            go_quiet (fail)
            go_wp2_with fail
            go_ret
            refine ⟨?_, (by repeat (first | exact hq.out.fr | (refine Fr.drewNS ?_) | (refine Fr.setS ?_)))⟩
            rw [HF.out]
            refine ⟨rfl, ?_⟩
            rw [List.length_drop, size_len, show s.size - (s.size - q) = q from by omega]
            exact hq.out.rd
          · have hL := hide hlong
            have hgt : (32 : Int) < (q : Int) - (p : Int) := by omega
            have HF := hide (show nameL (s.data.toList.drop p) = .bad (s.data.toList.drop p).length 20 from by
              unfold nameL
              rw [HN.out, ← HQ.out, if_neg hlong])
            clear hlong
            go_wp2_with fail
            go_quiet (fail)
            go_wp2_with fail
            go_quiet (fail)
            go_wp2_with fail
            refine (fail_any _ _ _).mono ?_
            rintro e w2 ⟨rfl, rfl⟩
            unfold faultP
            go_wp2_with fail
            refine ⟨rfl, ?_, (by repeat (first | exact hq.out.fr | (refine Fr.drewNS ?_) | (refine Fr.setS ?_)))⟩
            rw [HF.out]
            show _ = faultP ((s.size - (s.data.toList.drop p).length : Nat) : Int) 20
            rw [List.length_drop, size_len, show s.size - (s.size - p) = p from by omega]
            rfl
    · have hqi : ¬ (q : Int) < (s.size : Int) := by omega
      have HQ := hide (show q - p = n from by
        have h := hq.out.eq
        rw [List.drop_eq_nil_of_le (by rw [size_len]; omega)] at h
        simpa [runLen] using h)
      by_cases hlong : q - p ≤ 32
      · have hL := hide hlong
        have hgt : ¬ (32 : Int) < (q : Int) - (p : Int) := by omega
        have hpq : (p : Int) ≤ (q : Int) := by omega
        have hqe : (q : Int) ≤ (s.size : Int) := by omega
        have HF := hide (show nameL (s.data.toList.drop p) = .ok (s.extract p q).data.toList (s.data.toList.drop q) from by
          unfold nameL
          rw [HN.out, ← HQ.out, if_pos hlong, Lib.extract_data, List.drop_drop]
          rw [show p + (q - p) = q from by omega])
        clear hlong
        go_wp2_with fail
        go_quiet (fail)
        go_wp2_with fail
        go_quiet (fail)
        go_wp2_with fail
        go_ret
        refine ⟨?_, (by repeat (first | exact hq.out.fr | (refine Fr.drewNS ?_) | (refine Fr.setS ?_)))⟩
        rw [HF.out]
        refine ⟨rfl, ?_⟩
        rw [List.length_drop, size_len, show s.size - (s.size - q) = q from by omega]
        exact hq.out.rd
      · have hL := hide hlong
        have hgt : (32 : Int) < (q : Int) - (p : Int) := by omega
        have HF := hide (show nameL (s.data.toList.drop p) = .bad (s.data.toList.drop p).length 20 from by
          unfold nameL
          rw [HN.out, ← HQ.out, if_neg hlong])
        clear hlong
        go_wp2_with fail
        go_quiet (fail)
        go_wp2_with fail
        refine (fail_any _ _ _).mono ?_
        rintro e w2 ⟨rfl, rfl⟩
        unfold faultP
        go_wp2_with fail
        refine ⟨rfl, ?_, (by repeat (first | exact hq.out.fr | (refine Fr.drewNS ?_) | (refine Fr.setS ?_)))⟩
        rw [HF.out]
        show _ = faultP ((s.size - (s.data.toList.drop p).length : Nat) : Int) 20
        rw [List.length_drop, size_len, show s.size - (s.size - p) = p from by omega]
        rfl
end Go.Proofs.Ytfndldfnlncabaa
