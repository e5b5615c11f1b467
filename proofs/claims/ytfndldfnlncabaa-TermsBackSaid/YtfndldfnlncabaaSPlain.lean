/- Plain functions: how many terms a term is made of, how deep it is; and the reference's own reckoning of parts. -/
import Derived.Test.YtfndldfnlncabaaPlain
namespace Go.Proofs.Ytfndldfnlncabaa
set_option linter.unusedVariables false
set_option linter.unusedSimpArgs false
set_option linter.unnecessarySimpa false
set_option linter.deprecated false

mutual
/-- How many terms. -/
def cnt : Tm → Nat
  | .mk _ _ _ ks => 1 + cntL ks
def cntL : List Tm → Nat
  | [] => 0
  | x :: xs => cnt x + cntL xs
end
mutual
/-- How deep. -/
def dep : Tm → Nat
  | .mk _ _ _ ks => depL ks + 1
def depL : List Tm → Nat
  | [] => 0
  | x :: xs => max (dep x) (depL xs)
end
mutual
/-- The parts, as far as one counts. -/
def parts : Tm → Int → Int
  | .mk _ _ t ks, most => partsL ks (1 + (t.length / 64 : Nat)) most
def partsL : List Tm → Int → Int → Int
  | [], n, _ => n
  | x :: xs, n, most => if n ≤ most then partsL xs (n + parts x (most - n)) most else n
end

/-- Going through a list from the left. -/
def depF (d : Nat) : List Tm → Nat
  | [] => d
  | x :: xs => depF (max d (dep x)) xs
theorem depF_eq (ks : List Tm) : ∀ d, depF d ks = max d (depL ks) := by
  induction ks with
  | nil => intro d; simp [depF, depL]
  | cons x xs ih => intro d; rw [depF, ih, depL]; omega
theorem cntL_drop (ks : List Tm) (k : Nat) (hk : k < ks.length) : cntL (ks.drop k) = cnt ks[k] + cntL (ks.drop (k + 1)) := by
  rw [List.drop_eq_getElem_cons hk, cntL]
theorem depF_drop (ks : List Tm) (k d : Nat) (hk : k < ks.length) : depF d (ks.drop k) = depF (max d (dep ks[k])) (ks.drop (k + 1)) := by
  rw [List.drop_eq_getElem_cons hk, depF]
theorem cntL_mem {x : Tm} : ∀ {ks : List Tm}, x ∈ ks → cnt x ≤ cntL ks
  | y :: ys, h => by
    rw [cntL]
    rcases List.mem_cons.1 h with rfl | h
    · omega
    · have := cntL_mem h; omega
mutual
theorem dep_le_cnt : ∀ T : Tm, dep T ≤ cnt T
  | .mk k c t ks => by rw [dep, cnt]; have := depL_le_cntL ks; omega
theorem depL_le_cntL : ∀ ks : List Tm, depL ks ≤ cntL ks
  | [] => by simp [depL, cntL]
  | x :: xs => by rw [depL, cntL]; have := dep_le_cnt x; have := depL_le_cntL xs; omega
end
theorem cnt_pos (T : Tm) : 1 ≤ cnt T := by cases T; rw [cnt]; omega
end Go.Proofs.Ytfndldfnlncabaa
