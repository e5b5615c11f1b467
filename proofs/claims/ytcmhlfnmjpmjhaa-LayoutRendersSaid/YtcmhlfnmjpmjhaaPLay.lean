/- What the machine writes, by a job's structure. -/
import Derived.Test.YtcmhlfnmjpmjhaaPSame
set_option linter.unusedVariables false
set_option linter.unusedSimpArgs false
set_option linter.unnecessarySimpa false
set_option linter.deprecated false
namespace Go.Proofs.Ytcmhlfnmjpmjhaa
open Go.RowKit

/-- The bytes up to the next break, behind a job that is followed by these, and these by some more. -/
def behind (xs : List Jb) (t : Nat) : Nat := if (rcJL xs).2 then (rcJL xs).1 + t else (rcJL xs).1
/-- Does a group fit? -/
def fitT (ks : List Jb) (t : Nat) (st : Wst) : Bool := !hdJL ks && decide ((st.col : Int) + (flJL ks : Int) + (t : Int) ≤ st.wid)
mutual
/-- What is written of a job; fl: in a flat group; t: the bytes behind, up to the next break. -/
def layJ : Jb → Bool → Nat → Wst → Wst
  | .text s, _, _, st => if st.long then st else putM s.data.toList st
  | .line s i f, fl, _, st => if st.long then st else if f || fl then putM s.data.toList st else wrapM i.toNat st
  | .hard i, _, _, st => if st.long then st else wrapM i.toNat st
  | .many ks g, fl, t, st => if st.long then st else if g && !fl then (if fitT ks t st then layL ks true t st else layL ks false t { st with brk := st.brk + 1 }) else layL ks fl t st
def layL : List Jb → Bool → Nat → Wst → Wst
  | [], _, _, st => st
  | x :: xs, fl, t, st => layL xs fl t (layJ x fl (behind xs t) st)
end

def fjJ (fl : Bool) (j : Jb) : Jb := if fl then flatd j else j
def fjL (fl : Bool) (js : List Jb) : List Jb := if fl then flatdL js else js
theorem fjL_cons (fl : Bool) (x : Jb) (xs : List Jb) : fjL fl (x :: xs) = fjJ fl x :: fjL fl xs := by
  cases fl
  · rfl
  · show flatdL (x :: xs) = _
    rw [flatdL]; rfl
theorem rcJL_append (a b : List Jb) : rcJL (a ++ b) = (behind a (rcJL b).1, (rcJL a).2 && (rcJL b).2) := by
  induction a with
  | nil => unfold behind; rw [rcJL]; simp
  | cons x xs ih =>
    rw [List.cons_append, rcJL, rcJL, ih]
    unfold behind
    rw [rcJL]
    cases h1 : (rcJ x).2 <;> cases h2 : (rcJL xs).2 <;> simp [h1, h2, Nat.add_assoc]
mutual
theorem rcJ_flatd : ∀ j, rcJ (flatd j) = rcJ j
  | .text s => by rw [flatd]
  | .line s i f => by rw [flatd, rcJ, rcJ]
  | .hard i => by rw [flatd]
  | .many ks g => by rw [flatd, rcJ, rcJ, rcJ_flatdL ks]
theorem rcJ_flatdL : ∀ js, rcJL (flatdL js) = rcJL js
  | [] => by rw [flatdL]
  | x :: xs => by rw [flatdL, rcJL, rcJL, rcJ_flatd x, rcJ_flatdL xs]
end
theorem rcJ_fjL (fl : Bool) (js : List Jb) : rcJL (fjL fl js) = rcJL js := by
  cases fl
  · rfl
  · exact rcJ_flatdL js
theorem tail_behind (rest js : List Jb) (fl : Bool) : tailM (rest ++ (fjL fl js).reverse) = behind js (tailM rest) := by
  unfold tailM
  rw [List.reverse_append, List.reverse_reverse, rcJL_append]
  unfold behind
  rw [rcJ_fjL]
theorem fitM_T (ks : List Jb) (st : Wst) (rest : List Jb) : fitM ks st rest = fitT ks (tailM rest) st := rfl
mutual
theorem layJ_long : ∀ (j : Jb) (fl : Bool) (t : Nat) (st : Wst), st.long = true → layJ j fl t st = st
  | .text s, fl, t, st, h => by rw [layJ, if_pos h]
  | .line s i f, fl, t, st, h => by rw [layJ, if_pos h]
  | .hard i, fl, t, st, h => by rw [layJ, if_pos h]
  | .many ks g, fl, t, st, h => by rw [layJ, if_pos h]
theorem layL_long : ∀ (js : List Jb) (fl : Bool) (t : Nat) (st : Wst), st.long = true → layL js fl t st = st
  | [], fl, t, st, h => by rw [layL]
  | x :: xs, fl, t, st, h => by rw [layL, layJ_long x _ _ _ h, layL_long xs _ _ _ h]
end
mutual
theorem run_lay : ∀ (j : Jb) (fl : Bool) (n : Nat) (st : Wst) (rest : List Jb), runM (cntJ j + n) st (rest ++ [fjJ fl j]) = runM n (layJ j fl (tailM rest) st) rest
  | .text s, fl, n, st, rest => by
    have hf : fjJ fl (.text s) = .text s := by cases fl <;> simp [fjJ, flatd]
    rw [hf, cntJ, Nat.add_comm, layJ]
    cases hl : st.long with
    | true => rw [runM_long _ _ _ hl, if_pos rfl, runM_long _ _ _ hl]
    | false => rw [runM_step _ _ _ _ hl, writeM]; rfl
  | .line s i f, fl, n, st, rest => by
    have hf : fjJ fl (.line s i f) = .line s i (f || fl) := by cases fl <;> simp [fjJ, flatd]
    rw [hf, cntJ, Nat.add_comm, layJ]
    cases hl : st.long with
    | true => rw [runM_long _ _ _ hl, if_pos rfl, runM_long _ _ _ hl]
    | false => rw [runM_step _ _ _ _ hl, writeM]; rfl
  | .hard i, fl, n, st, rest => by
    have hf : fjJ fl (.hard i) = .hard i := by cases fl <;> simp [fjJ, flatd]
    rw [hf, cntJ, Nat.add_comm, layJ]
    cases hl : st.long with
    | true => rw [runM_long _ _ _ hl, if_pos rfl, runM_long _ _ _ hl]
    | false => rw [runM_step _ _ _ _ hl, writeM]; rfl
  | .many ks g, fl, n, st, rest => by
    rw [cntJ, layJ, show 1 + cntJL ks + n = (cntJL ks + n) + 1 by omega]
    by_cases hl1 : st.long = true
    · rw [runM_long _ _ _ hl1, if_pos hl1, runM_long _ _ _ hl1]
    · have hl : st.long = false := by simpa using hl1
      rw [runM_step _ _ _ _ hl, if_neg hl1]
      cases fl with
      | true =>
        rw [show fjJ true (.many ks g) = .many (flatdL ks) false by simp [fjJ, flatd], writeM]
        rw [if_neg (by simp)]
        have h1 : manyM (flatdL ks) false st rest = st := by simp [manyM]
        have h2 : kidsM (flatdL ks) false st rest = fjL true ks := by simp [kidsM, fjL]
        rw [h1, h2]
        exact run_layL ks true n st rest
      | false =>
        rw [show fjJ false (.many ks g) = .many ks g from rfl, writeM]
        cases g with
        | false =>
          rw [if_neg (by simp)]
          have h1 : manyM ks false st rest = st := by simp [manyM]
          have h2 : kidsM ks false st rest = fjL false ks := by simp [kidsM, fjL]
          rw [h1, h2]
          exact run_layL ks false n st rest
        | true =>
          rw [if_pos (by simp)]
          rw [← fitM_T]
          cases hf : fitM ks st rest with
          | true =>
            have h1 : manyM ks true st rest = st := by simp [manyM, hf]
            have h2 : kidsM ks true st rest = fjL true ks := by simp [kidsM, fjL, hf]
            rw [h1, h2, if_pos rfl]
            exact run_layL ks true n st rest
          | false =>
            have h1 : manyM ks true st rest = { st with brk := st.brk + 1 } := by simp [manyM, hf]
            have h2 : kidsM ks true st rest = fjL false ks := by simp [kidsM, fjL, hf]
            rw [h1, h2, if_neg (by simp)]
            exact run_layL ks false n _ rest
theorem run_layL : ∀ (js : List Jb) (fl : Bool) (n : Nat) (st : Wst) (rest : List Jb), runM (cntJL js + n) st (rest ++ (fjL fl js).reverse) = runM n (layL js fl (tailM rest) st) rest
  | [], fl, n, st, rest => by
    have : fjL fl [] = [] := by cases fl <;> simp [fjL, flatdL]
    rw [this, cntJL, layL]; simp
  | x :: xs, fl, n, st, rest => by
    rw [fjL_cons, List.reverse_cons, ← List.append_assoc, cntJL, Nat.add_assoc, run_lay x fl (cntJL xs + n) st, tail_behind, run_layL xs fl n, layL]
end
def st0 (width : Int) : Wst := { out := [], col := 0, wid := max width 0, brk := 0, long := false }
theorem outM_lay (d : Dc) (width : Int) : outM d width = layJ (jobOf d 0) false 0 (st0 width) := by
  have h := run_lay (jobOf d 0) false 0 (st0 width) []
  rw [Nat.add_zero] at h
  unfold outM
  rw [show ([] : List Jb) ++ [fjJ false (jobOf d 0)] = [jobOf d 0] from rfl] at h
  rw [show ({ out := [], col := 0, wid := max width 0, brk := 0, long := false } : Wst) = st0 width from rfl, h, runM_nil]
  rfl

theorem layJ_text {s : ByteArray} {fl : Bool} {t : Nat} {st : Wst} (h : st.long = false) : layJ (.text s) fl t st = putM s.data.toList st := by rw [layJ, h]; rfl
theorem layJ_line {s : ByteArray} {i : Int} {f fl : Bool} {t : Nat} {st : Wst} (h : st.long = false) : layJ (.line s i f) fl t st = if f || fl then putM s.data.toList st else wrapM i.toNat st := by rw [layJ, if_neg (by rw [h]; simp)]
theorem layJ_hard {i : Int} {fl : Bool} {t : Nat} {st : Wst} (h : st.long = false) : layJ (.hard i) fl t st = wrapM i.toNat st := by rw [layJ, h]; rfl
theorem layJ_many {ks : List Jb} {g fl : Bool} {t : Nat} {st : Wst} (h : st.long = false) : layJ (.many ks g) fl t st = if g && !fl then (if fitT ks t st then layL ks true t st else layL ks false t { st with brk := st.brk + 1 }) else layL ks fl t st := by rw [layJ, if_neg (by rw [h]; simp)]

theorem layL_cons {x : Jb} {xs : List Jb} {fl : Bool} {t : Nat} {st : Wst} : layL (x :: xs) fl t st = layL xs fl t (layJ x fl (behind xs t) st) := by rw [layL]

/-- What is not long was not. -/
theorem putM_nl {s : List UInt8} {st : Wst} (h : (putM s st).long = false) : (putM s st) = { st with out := st.out ++ s, col := st.col + s.length } := by
  unfold putM at h ⊢
  split at h
  · rename_i h2; rw [if_pos h2]
  · cases h
theorem wrapM_nl {i : Nat} {st : Wst} (h : (wrapM i st).long = false) : (wrapM i st) = { st with out := st.out ++ 10 :: List.replicate i 32, col := i } := by
  unfold wrapM at h ⊢
  split at h
  · rename_i h2; rw [if_pos h2]
  · cases h
theorem layJ_nl {j : Jb} {fl : Bool} {t : Nat} {st : Wst} (h : (layJ j fl t st).long = false) : st.long = false := by
  cases hl : st.long with
  | false => rfl
  | true => rw [layJ_long _ _ _ _ hl, hl] at h; cases h
theorem layL_nl {js : List Jb} {fl : Bool} {t : Nat} {st : Wst} (h : (layL js fl t st).long = false) : st.long = false := by
  cases hl : st.long with
  | false => rfl
  | true => rw [layL_long _ _ _ _ hl, hl] at h; cases h
end Go.Proofs.Ytcmhlfnmjpmjhaa
