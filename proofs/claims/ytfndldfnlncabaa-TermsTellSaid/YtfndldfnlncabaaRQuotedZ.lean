/- The reader's method quoted, all ways joined. -/
import Derived.Test.YtfndldfnlncabaaRQuotedA
import Derived.Test.YtfndldfnlncabaaRQuotedB
import Derived.Test.YtfndldfnlncabaaRQuotedC
import Derived.Test.YtfndldfnlncabaaRQuotedD
namespace Go.Proofs.Ytfndldfnlncabaa
set_option linter.unnecessarySimpa false
set_option linter.deprecated false
open Go.RowKit
set_option linter.unusedVariables false
set_option linter.unusedSimpArgs false

theorem unqL_left (n : Nat) : ∀ (l acc : List UInt8) (left : Nat) (code : Int), unqL n l acc = .bad left code → left ≤ l.length := by
  induction n with
  | zero => intro l acc left code h; simp [unqL] at h
  | succ n ih =>
    intro l acc left code h
    cases l with
    | nil => simp [unqL] at h
    | cons c r =>
      rw [unqL] at h
      split at h
      · cases h
      · split at h
        · split at h
          · injection h with h1 h2; simp only [List.length_cons]; omega
          · have := ih _ _ _ _ h
            rw [List.length_drop] at this
            omega
        · split at h
          · injection h with h1 h2; simp only [List.length_cons]; omega
          · have := ih _ _ _ _ h
            simp only [List.length_cons]
            omega

theorem rquoted_any (g : Nat) (s : ByteArray) (p : Nat) (w : World) (hs : s.size ≤ 65536) (hp : p < s.size) (hq : s[p]'hp = 34) (hr : Rd w g s p) :
    Calls Try.prog 55 #[.pointer (some ⟨g, 0, none⟩)] w fun e w' => QuotPost g s w.heap.size (quotL (s.data.toList.drop p)) e w' ∧ Fr g w w' := by
  obtain ⟨hz1, hl1⟩ := extract_rest s p (by omega)
  have hU1 := fun W => Unquote_any (s.extract p s.size) W (by omega) (by omega) (by rw [first_of s p _ (by omega) hp (by rw [hz1, hl1, List.take_of_length_le (by rw [List.length_drop, size_len]; omega)]), hq])
  rw [hz1, hl1] at hU1
  have hll : (s.data.toList.drop p).length = s.size - p := by rw [List.length_drop, size_len]
  have hcode := unqL_code (s.size - p) ((s.data.toList.drop p).drop 1) []
  have hrest := unqL_rest (s.size - p) ((s.data.toList.drop p).drop 1) []
  have htake := unqL_take (s.size - p) ((s.data.toList.drop p).drop 1) []
  have hleft := unqL_left (s.size - p) ((s.data.toList.drop p).drop 1) []
  have hl2 : ((s.data.toList.drop p).drop 1).length = s.size - p - 1 := by rw [List.length_drop, hll]
  unfold quotL
  rw [hll]
  rw [hl2] at htake
  generalize hres : unqL (s.size - p) ((s.data.toList.drop p).drop 1) [] = res at hU1
  cases res with
  | ok bs rest =>
    have h1 := hrest bs rest hres
    rw [hl2] at h1
    cases rest with
    | nil =>
      refine rq_nil g s p w hs hp hr bs fun W => (hU1 W).mono ?_
      rintro e w' ⟨h, hb⟩
      exact ⟨h, hb⟩
    | cons x rest =>
      have hle : (x :: rest).length < s.size - p - 1 := h1
      have hqs : s.size - (x :: rest).length ≤ s.size := by omega
      have hpq : p ≤ s.size - (x :: rest).length := by omega
      obtain ⟨hz2, hl3⟩ := extract_part s p (s.size - (x :: rest).length) hpq hqs
      refine rq_rest g s p w hs hp hr bs (x :: rest) (by omega) (fun W => ?_) fun W => (hU1 W).mono ?_
      · have hU2 := Unquote_any (s.extract p (s.size - (x :: rest).length)) W (by omega) (by omega) (by rw [first_of s p _ (by omega) hp (by rw [hz2, hl3]), hq])
        rw [hz2, hl3] at hU2
        have e : ((s.data.toList.drop p).take (s.size - (x :: rest).length - p)).drop 1 = ((s.data.toList.drop p).drop 1).take (s.size - p - 1 - (x :: rest).length) := by
          rw [List.drop_take]
          congr 1
          omega
        have h2 := htake bs (x :: rest) (s.size - (x :: rest).length - p) hres (by omega) (by omega)
        rw [e, h2] at hU2
        exact hU2.mono fun _ _ h => h
      · rintro e w' ⟨h, hb⟩
        exact ⟨⟨none, 0, h, RBo.nil⟩, hb⟩
  | bad left code =>
    have h1 := hcode left code hres
    have h2 := hleft left code hres
    rw [hl2] at h2
    refine rq_bad g s p w hs hp hr left code (by omega) (by omega) fun W => (hU1 W).mono ?_
    rintro e w' ⟨h, hb⟩
    exact ⟨⟨none, 0, h.1, RBo.nil⟩, hb⟩
  | opened =>
    refine rq_open g s p w hs hp hr fun W => (hU1 W).mono ?_
    rintro e w' ⟨h, hb⟩
    exact ⟨⟨none, 0, h, RBo.nil⟩, hb⟩
end Go.Proofs.Ytfndldfnlncabaa
