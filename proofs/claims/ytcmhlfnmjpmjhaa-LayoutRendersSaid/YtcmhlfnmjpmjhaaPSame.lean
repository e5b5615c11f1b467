/- The plain law of LayoutSame. -/
import Derived.Test.YtcmhlfnmjpmjhaaRender
set_option linter.unusedVariables false
set_option linter.unusedSimpArgs false
set_option linter.unnecessarySimpa false
set_option linter.deprecated false
namespace Go.Proofs.Ytcmhlfnmjpmjhaa
open Go.RowKit

def oneD (d : Dc) : Dc := .mk 6 emptyB 0 [.mk 6 emptyB 0 [], .mk 6 emptyB 0 [d]]
def wordD (t : ByteArray) : Dc := .mk 1 t 0 []
def grpD (t : ByteArray) : Dc := .mk 5 emptyB 0 [wordD t]

theorem okK6 (kl : Nat) : okK 6 emptyB 0 kl = true := by unfold okK; simp [show emptyB.toList = [] from by kernel_rfl]
theorem okK5 (kl : Nat) : okK 5 emptyB 0 kl = true := by unfold okK; simp [show emptyB.toList = [] from by kernel_rfl]
theorem rtB_mono : ∀ (n : Nat) (d : Dc), rtB n d = true → rtB (n + 1) d = true
  | 0, d, h => by rw [rtB] at h; cases h
  | n + 1, .mk k t m ks, h => by
    rw [rtB, Bool.and_eq_true, List.all_eq_true] at h ⊢
    exact ⟨h.1, fun x hx => rtB_mono n x (h.2 x hx)⟩
theorem rtB_one (d : Dc) : rtB 200 (oneD d) = rtB 198 d := by
  unfold oneD
  rw [rtB, okK6, Bool.true_and]
  simp only [List.all_cons, List.all_nil, Bool.and_true]
  rw [rtB, okK6, rtB, okK6]
  simp
theorem job_one (d : Dc) : jobOf (oneD d) 0 = .many [.many [] false, .many [jobOf d 0] false] false := by
  unfold oneD
  simp [jobOf, jobsOf]
theorem runM_many (n : Nat) (st : Wst) (ks rest : List Jb) : runM (n + 1) st (rest ++ [.many ks false]) = runM n st (rest ++ ks.reverse) := by
  cases hl : st.long with
  | true => rw [runM_long _ _ _ hl, runM_long _ _ _ hl]
  | false =>
    rw [runM_step _ _ _ _ hl, writeM]
    rfl
theorem out_one (d : Dc) (width : Int) : outM (oneD d) width = outM d width := by
  unfold outM
  rw [job_one]
  rw [show cntJ (.many [.many [] false, .many [jobOf d 0] false] false) = cntJ (jobOf d 0) + 1 + 1 + 1 by simp [cntJ, cntJL]; omega]
  rw [show [Jb.many [.many [] false, .many [jobOf d 0] false] false] = [] ++ [Jb.many [.many [] false, .many [jobOf d 0] false] false] from rfl, runM_many]
  rw [show ([] : List Jb) ++ [Jb.many [] false, .many [jobOf d 0] false].reverse = [.many [jobOf d 0] false] ++ [Jb.many [] false] from rfl, runM_many]
  rw [show [Jb.many [jobOf d 0] false] ++ ([] : List Jb).reverse = [] ++ [Jb.many [jobOf d 0] false] from rfl, runM_many]
  rfl
theorem same_one (d : Dc) (width : Int) (h : rtB 200 (oneD d) = true) : rendM d width = rendM (oneD d) width := by
  have h2 : rtB 200 d = true := by rw [rtB_one] at h; exact rtB_mono _ _ (rtB_mono _ _ h)
  unfold rendM
  rw [h, h2, out_one]
theorem rtB_word (t : ByteArray) : rtB 200 (grpD t) = rtB 200 (wordD t) := by
  unfold grpD wordD
  rw [rtB, okK5, Bool.true_and]
  simp only [List.all_cons, List.all_nil, Bool.and_true]
  rw [rtB, rtB]
  simp
theorem run_text (n : Nat) (t : ByteArray) (st : Wst) : runM (n + 1) st [.text t] = if st.long then st else putM t.data.toList st := by
  cases hl : st.long with
  | true => rw [runM_long _ _ _ hl]; rfl
  | false =>
    rw [show [Jb.text t] = [] ++ [Jb.text t] from rfl, runM_step _ _ _ _ hl, writeM, runM_nil]
    rfl
theorem out_word (t : ByteArray) (width : Int) : (outM (grpD t) width).out = (outM (wordD t) width).out ∧ (outM (grpD t) width).long = (outM (wordD t) width).long := by
  have hj : jobOf (grpD t) 0 = .many [.text t] true := by unfold grpD wordD; simp [jobOf, jobsOf]
  have hw : jobOf (wordD t) 0 = .text t := by unfold wordD; simp [jobOf]
  unfold outM
  rw [hj, hw]
  rw [show cntJ (.many [.text t] true) = 1 + 1 by simp [cntJ, cntJL], show cntJ (.text t) = 0 + 1 by simp [cntJ]]
  rw [run_text, show [Jb.many [.text t] true] = [] ++ [Jb.many [.text t] true] from rfl, runM_step _ _ _ _ rfl, writeM]
  have hk : ∀ st rest, kidsM [.text t] true st rest = [.text t] := fun st rest => by
    unfold kidsM
    split
    · simp [flatdL, flatd]
    · rfl
  rw [hk]
  have hm : ∀ st : Wst, st.long = false → ∀ rest, (runM 1 (manyM [.text t] true st rest) [.text t]).out = (putM t.data.toList st).out ∧ (runM 1 (manyM [.text t] true st rest) [.text t]).long = (putM t.data.toList st).long := fun st hl rest => by
    have hl2 : (manyM [.text t] true st rest).long = false := by rw [(manyM_out _ _ _ _).2.2.2.2]; exact hl
    rw [run_text, if_neg (by rw [hl2]; simp)]
    obtain ⟨_, _, h3, h4, h5⟩ := manyM_out [.text t] true st rest
    unfold putM
    rw [h3, h4]
    split
    · simp [h3, h5]
    · simp [h3, h5]
  have := hm { out := [], col := 0, wid := max width 0, brk := 0, long := false } rfl []
  simpa using this
theorem same_word (t : ByteArray) (width : Int) : rendM (wordD t) width = rendM (grpD t) width := by
  obtain ⟨h1, h2⟩ := out_word t width
  unfold rendM
  rw [rtB_word, h1, h2]
end Go.Proofs.Ytcmhlfnmjpmjhaa
