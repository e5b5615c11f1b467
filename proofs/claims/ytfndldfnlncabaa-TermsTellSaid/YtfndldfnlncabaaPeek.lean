/- The walks of fail and of the reader's methods peek and name. -/
import Derived.Test.YtfndldfnlncabaaReader
set_option linter.unnecessarySimpa false
set_option linter.deprecated false
namespace Go.Proofs.Ytfndldfnlncabaa
open Go.RowKit
set_option linter.unusedVariables false
set_option linter.unusedSimpArgs false

/-- A panic with a fault. -/
def faultP (at_ code : Int) : Ending := .panicked [{ v := .iface 32 (fv at_ code), recovered := false }]

set_option maxHeartbeats 1000000 in
theorem fail_any (a c : Int) (w : World) : Calls Try.prog 42 #[.int .i64 a, .int .i64 c] w fun e w' => e = faultP a c ∧ w = w' := by
  unfold faultP fv
  go_enter Try.func42, Try.ntmps42
  go_wp2_with fail
  exact ⟨rfl, rfl, rfl⟩

/-- What peek hands back. -/
def PeekPost (g : Nat) (s : ByteArray) (r : PR UInt8) (e : Ending) (w' : World) : Prop :=
  match r with
  | .ok c l => e = .returned (.int .u8 (c.toNat : Int)) ∧ Rd w' g s (s.size - l.length)
  | .bad m code => e = faultP ((s.size - m : Nat) : Int) code

theorem drop_suffix {l r : List UInt8} (h : r <:+ l) : l.drop (l.length - r.length) = r := (List.suffix_iff_eq_drop.1 h).symm
theorem skip_drop (s : ByteArray) (p : Nat) (hp : p ≤ s.size) : s.data.toList.drop (s.size - (skipL (s.data.toList.drop p)).length) = skipL (s.data.toList.drop p) := by
  have h1 : skipL (s.data.toList.drop p) <:+ s.data.toList := (skipL_suffix _).trans (List.drop_suffix _ _)
  have := drop_suffix h1
  rw [size_len] at this
  exact this

set_option maxHeartbeats 2000000 in
set_option maxRecDepth 100000 in
theorem peek_any (g : Nat) (s : ByteArray) (p : Nat) (w : World) (hs : s.size ≤ 65536) (hp : p ≤ s.size) (hr : Rd w g s p) :
    Calls Try.prog 54 #[.pointer (some ⟨g, 0, none⟩)] w fun e w' => PeekPost g s (peekL (s.data.toList.drop p)) e w' ∧ Fr g w w' := by
  have hS := skip_any g s p w hs hp hr
  have hd := skip_drop s p hp
  have hle : (skipL (s.data.toList.drop p)).length ≤ s.size := by
    have h1 := (skipL_suffix (s.data.toList.drop p)).length_le
    rw [List.length_drop, size_len] at h1
    omega
  unfold peekL
  generalize skipL (s.data.toList.drop p) = l at hS hd hle ⊢
  have HS := hide hS
  clear hS hr
  cases l with
  | nil =>
    go_enter Try.func54, Try.ntmps54
    go_wp2_with fail
    refine HS.out.mono ?_
    rintro e w1 ⟨rfl, h1, h2⟩
    have c0 := h1.cell0
    have c1 := h1.cell1
    have hlt := h1.lt
    simp only [List.isEmpty_nil, Bool.not_true, List.length_nil, Nat.sub_zero] at *
    go_wp2_with fail
    refine (fail_any _ _ _).mono ?_
    rintro e w2 ⟨rfl, rfl⟩
    unfold faultP
    go_wp2_with fail
    exact ⟨rfl, rfl, h2⟩
  | cons c r =>
    have hlt : s.size - (c :: r).length < s.size := by simp only [List.length_cons] at hle ⊢; omega
    have hcr := hd
    rw [drop_at s _ hlt] at hcr
    injection hcr with hc1 hc2
    generalize hq : s.size - (c :: r).length = q at hlt hc1 HS
    have HQ := hide hq
    clear hd hc2 hq
    go_enter Try.func54, Try.ntmps54
    go_wp2_with fail
    refine HS.out.mono ?_
    rintro e w1 ⟨rfl, h1, h2⟩
    have HR := hide h1
    have c0 := h1.cell0
    have c1 := h1.cell1
    have hlt2 := h1.lt
    have hqi : (q : Int) < (s.size : Int) := by omega
    clear h1
    simp only [List.isEmpty_cons, Bool.not_false] at *
    go_wp2_with fail
    go_quiet (fail)
    go_wp2_with fail
    go_ret
    exact ⟨⟨rfl, by rw [HQ.out]; exact HR.out.drewNS⟩, h2.drewNS⟩
end Go.Proofs.Ytfndldfnlncabaa
