/- What is quoted is read back. -/
import Derived.Test.YtfngkdcjifdliaaWPlain
set_option linter.unusedVariables false
set_option linter.unusedSimpArgs false
set_option linter.unnecessarySimpa false
set_option linter.deprecated false
namespace Go.Proofs.Ytfngkdcjifdliaa

theorem valI_hexD : ∀ a, a < 16 → valI ((hexD a).toNat : Int) = a := by decide
theorem escL_hex (x y : UInt8) (r : List UInt8) (hx : 0 ≤ valI x.toNat) (hy : 0 ≤ valI y.toNat) : escL (92 :: 120 :: x :: y :: r) = (UInt8.ofNat (16 * valI x.toNat + valI y.toNat).toNat, 4) := by
  unfold escL
  simp [hx, hy]
theorem unq_quoted : ∀ (t : List UInt8) (n : Nat) (acc rest : List UInt8), t.length < n → unqL n (qBytes t ++ 34 :: rest) acc = .ok (acc ++ t) rest
  | [], n + 1, acc, rest, h => by simp [qBytes, unqL]
  | [], 0, _, _, h => by simp at h
  | c :: t, 0, _, _, h => by simp at h
  | c :: t, n + 1, acc, rest, h => by
    have ih := unq_quoted t n (acc ++ [c]) rest (by simpa using h)
    have e : qBytes (c :: t) ++ 34 :: rest = qByte c ++ (qBytes t ++ 34 :: rest) := by simp [qBytes]
    rw [e]
    generalize hq : qBytes t ++ 34 :: rest = q at ih
    have e2 : acc ++ c :: t = acc ++ [c] ++ t := by simp
    rw [e2]
    unfold qByte
    by_cases h1 : c = 34
    · rw [if_pos h1]; subst h1
      simpa [unqL, escL] using ih
    rw [if_neg h1]
    by_cases h2 : c = 92
    · rw [if_pos h2]; subst h2
      simpa [unqL, escL] using ih
    rw [if_neg h2]
    by_cases h3 : c = 10
    · rw [if_pos h3]; subst h3
      simpa [unqL, escL] using ih
    rw [if_neg h3]
    by_cases h4 : c = 9
    · rw [if_pos h4]; subst h4
      simpa [unqL, escL] using ih
    rw [if_neg h4]
    by_cases h5 : c = 13
    · rw [if_pos h5]; subst h5
      simpa [unqL, escL] using ih
    rw [if_neg h5]
    by_cases h6 : c < 32 ∨ 126 < c
    · rw [if_pos h6]
      have hlt := c.toNat_lt
      have v1 := valI_hexD (c.toNat / 16) (by omega)
      have v2 := valI_hexD (c.toNat % 16) (by omega)
      have hesc := escL_hex (hexD (c.toNat / 16)) (hexD (c.toNat % 16)) q (by omega) (by omega)
      rw [v1, v2] at hesc
      have e3 : UInt8.ofNat (16 * ((c.toNat / 16 : Nat) : Int) + ((c.toNat % 16 : Nat) : Int)).toNat = c := by
        have : (16 * ((c.toNat / 16 : Nat) : Int) + ((c.toNat % 16 : Nat) : Int)).toNat = c.toNat := by omega
        rw [this]; simp
      rw [e3] at hesc
      simp only [List.cons_append, List.nil_append]
      rw [unqL, if_neg (by decide), if_pos rfl, hesc]
      simpa using ih
    · rw [if_neg h6]
      simp only [List.cons_append, List.nil_append]
      rw [unqL, if_neg h1, if_neg h2, if_neg h6]
      exact ih
end Go.Proofs.Ytfngkdcjifdliaa
