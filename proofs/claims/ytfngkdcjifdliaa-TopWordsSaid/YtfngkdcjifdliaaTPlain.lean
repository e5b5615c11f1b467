/- Sets of bytes, plain: what is in them, their runs, and the set that runs make. -/
set_option linter.unusedVariables false
set_option linter.unusedSimpArgs false
set_option linter.unnecessarySimpa false
set_option linter.deprecated false
namespace Go.Proofs.Ytfngkdcjifdliaa

/-- A set: four words of 64 bits. -/
structure St where
  w0 : Nat
  w1 : Nat
  w2 : Nat
  w3 : Nat
def St.word (s : St) (i : Nat) : Nat := if i = 0 then s.w0 else if i = 1 then s.w1 else if i = 2 then s.w2 else s.w3
def St.ok (s : St) : Prop := s.w0 < 18446744073709551616 ∧ s.w1 < 18446744073709551616 ∧ s.w2 < 18446744073709551616 ∧ s.w3 < 18446744073709551616
def St.put (s : St) (i v : Nat) : St := if i = 0 then { s with w0 := v } else if i = 1 then { s with w1 := v } else if i = 2 then { s with w2 := v } else { s with w3 := v }
def zS : St := ⟨0, 0, 0, 0⟩
theorem zS_ok : zS.ok := ⟨by decide, by decide, by decide, by decide⟩
def has (s : St) (b : Nat) : Bool := (s.word (b / 64)).testBit (b % 64)
/-- One byte more. -/
def addB (s : St) (b : Nat) : St := s.put (b / 64) (s.word (b / 64) ||| 2 ^ (b % 64))
def orS (s t : St) : St := ⟨s.w0 ||| t.w0, s.w1 ||| t.w1, s.w2 ||| t.w2, s.w3 ||| t.w3⟩
theorem word_ok {s : St} (h : s.ok) (i : Nat) : s.word i < 18446744073709551616 := by
  obtain ⟨h0, h1, h2, h3⟩ := h
  unfold St.word
  split
  · exact h0
  · split
    · exact h1
    · split
      · exact h2
      · exact h3
theorem or_lt {a b : Nat} (ha : a < 18446744073709551616) (hb : b < 18446744073709551616) : a ||| b < 18446744073709551616 := by
  have h1 : (18446744073709551616 : Nat) = 2 ^ 64 := by decide
  rw [h1] at ha hb ⊢
  exact Nat.or_lt_two_pow ha hb
theorem pow_lt {n : Nat} (h : n < 64) : 2 ^ n < 18446744073709551616 := by
  have h1 : (18446744073709551616 : Nat) = 2 ^ 64 := by decide
  rw [h1]
  exact Nat.pow_lt_pow_right (by decide) h
theorem put_ok {s : St} (h : s.ok) (i v : Nat) (hv : v < 18446744073709551616) : (s.put i v).ok := by
  obtain ⟨h0, h1, h2, h3⟩ := h
  unfold St.put
  split
  · exact ⟨hv, h1, h2, h3⟩
  · split
    · exact ⟨h0, hv, h2, h3⟩
    · split
      · exact ⟨h0, h1, hv, h3⟩
      · exact ⟨h0, h1, h2, hv⟩
theorem addB_ok {s : St} (h : s.ok) (b : Nat) : (addB s b).ok := put_ok h _ _ (or_lt (word_ok h _) (pow_lt (Nat.mod_lt _ (by decide))))
theorem orS_ok {s t : St} (h : s.ok) (k : t.ok) : (orS s t).ok := ⟨or_lt h.1 k.1, or_lt h.2.1 k.2.1, or_lt h.2.2.1 k.2.2.1, or_lt h.2.2.2 k.2.2.2⟩
theorem word_put (s : St) (i j v : Nat) (hi : i < 4) (hj : j < 4) : (s.put i v).word j = if i = j then v else s.word j := by
  have h1 : i = 0 ∨ i = 1 ∨ i = 2 ∨ i = 3 := by omega
  have h2 : j = 0 ∨ j = 1 ∨ j = 2 ∨ j = 3 := by omega
  rcases h1 with rfl | rfl | rfl | rfl <;> rcases h2 with rfl | rfl | rfl | rfl <;> simp [St.put, St.word]
theorem has_addB (s : St) (b j : Nat) (hb : b < 256) (hj : j < 256) : has (addB s b) j = (has s j || decide (b = j)) := by
  unfold has addB
  rw [word_put _ _ _ _ (by omega) (by omega)]
  by_cases h : b / 64 = j / 64
  · rw [if_pos h, Nat.testBit_or, h, Nat.testBit_two_pow]
    congr 1
    apply decide_eq_decide.2
    omega
  · rw [if_neg h]
    have : b ≠ j := fun e => h (by rw [e])
    simp [this]
theorem has_orS (s t : St) (j : Nat) (hj : j < 256) : has (orS s t) j = (has s j || has t j) := by
  unfold has
  have h2 : j / 64 = 0 ∨ j / 64 = 1 ∨ j / 64 = 2 ∨ j / 64 = 3 := by omega
  rcases h2 with h | h | h | h <;> rw [h] <;> simp [St.word, orS, Nat.testBit_or]
theorem has_zS (j : Nat) : has zS j = false := by
  unfold has
  have : zS.word (j / 64) = 0 := by
    unfold St.word zS
    repeat' split
    all_goals rfl
  rw [this]
  simp
theorem word_ext {a b : Nat} (ha : a < 18446744073709551616) (hb : b < 18446744073709551616) (h : ∀ i, i < 64 → a.testBit i = b.testBit i) : a = b := by
  apply Nat.eq_of_testBit_eq
  intro i
  by_cases hi : i < 64
  · exact h i hi
  · have h1 : (18446744073709551616 : Nat) = 2 ^ 64 := by decide
    rw [h1] at ha hb
    have hp : 2 ^ 64 ≤ 2 ^ i := Nat.pow_le_pow_right (by decide) (by omega)
    rw [Nat.testBit_lt_two_pow (Nat.lt_of_lt_of_le ha hp), Nat.testBit_lt_two_pow (Nat.lt_of_lt_of_le hb hp)]
theorem St.ext_has {s t : St} (hs : s.ok) (ht : t.ok) (h : ∀ j, j < 256 → has s j = has t j) : s = t := by
  have key : ∀ q, q < 4 → s.word q = t.word q := fun q hq => word_ext (word_ok hs q) (word_ok ht q) fun i hi => by
    have := h (q * 64 + i) (by omega)
    unfold has at this
    rw [show (q * 64 + i) / 64 = q by omega, show (q * 64 + i) % 64 = i by omega] at this
    exact this
  obtain ⟨a, b, c, d⟩ := s
  obtain ⟨a', b', c', d'⟩ := t
  have h0 := key 0 (by decide)
  have h1 := key 1 (by decide)
  have h2 := key 2 (by decide)
  have h3 := key 3 (by decide)
  simp [St.word] at h0 h1 h2 h3
  rw [h0, h1, h2, h3]

/-- The bytes from lo on, so many. -/
def rngS : Nat → Nat → St → St
  | _, 0, s => s
  | lo, n + 1, s => rngS (lo + 1) n (addB s lo)
theorem rngS_ok : ∀ (n lo : Nat) (s : St), s.ok → (rngS lo n s).ok
  | 0, _, s, h => h
  | n + 1, lo, s, h => by rw [rngS]; exact rngS_ok n (lo + 1) _ (addB_ok h lo)
theorem has_rngS : ∀ (n lo : Nat) (s : St) (j : Nat), lo + n ≤ 256 → j < 256 → has (rngS lo n s) j = (has s j || decide (lo ≤ j ∧ j < lo + n))
  | 0, lo, s, j, h, hj => by rw [rngS]; simp; omega
  | n + 1, lo, s, j, h, hj => by
    rw [rngS, has_rngS n (lo + 1) _ j (by omega) hj, has_addB _ _ _ (by omega) hj, Bool.or_assoc]
    congr 1
    rw [Bool.eq_iff_iff]
    simp
    omega
/-- The bytes from lo to hi. -/
def rangeS (lo hi : Nat) : St := rngS lo (hi + 1 - lo) zS
theorem rangeS_ok (lo hi : Nat) : (rangeS lo hi).ok := rngS_ok _ _ _ zS_ok
theorem has_rangeS (lo hi j : Nat) (h : hi < 256) (hl : lo ≤ hi) (hj : j < 256) : has (rangeS lo hi) j = decide (lo ≤ j ∧ j ≤ hi) := by
  unfold rangeS
  rw [has_rngS _ _ _ _ (by omega) hj, has_zS, Bool.false_or]
  apply decide_eq_decide.2
  omega

/-- The set that stretches make. -/
def setOf : List (Nat × Nat) → St → St
  | [], s => s
  | r :: rs, s => setOf rs (orS s (rangeS r.1 r.2))
theorem setOf_ok : ∀ (l : List (Nat × Nat)) (s : St), s.ok → (setOf l s).ok
  | [], s, h => h
  | r :: rs, s, h => by rw [setOf]; exact setOf_ok rs _ (orS_ok h (rangeS_ok _ _))
def okR (r : Nat × Nat) : Prop := r.1 ≤ r.2 ∧ r.2 < 256
def cov (l : List (Nat × Nat)) (j : Nat) : Bool := l.any fun r => decide (r.1 ≤ j ∧ j ≤ r.2)
theorem has_setOf : ∀ (l : List (Nat × Nat)) (s : St) (j : Nat), (∀ r ∈ l, okR r) → j < 256 → has (setOf l s) j = (has s j || cov l j)
  | [], s, j, _, _ => by rw [setOf]; simp [cov]
  | r :: rs, s, j, h, hj => by
    have hr := h r (List.mem_cons_self ..)
    rw [setOf, has_setOf rs _ j (fun x hx => h x (List.mem_cons_of_mem _ hx)) hj, has_orS _ _ _ hj, has_rangeS _ _ _ hr.2 hr.1 hj, Bool.or_assoc]
    unfold cov
    rw [List.any_cons]

/-- Runs, one byte more: the last run grows, or a new one begins. -/
def addR (l : List (Nat × Nat)) (b : Nat) : List (Nat × Nat) :=
  match l.getLast? with
  | some r => if r.2 + 1 = b then l.dropLast ++ [(r.1, b)] else l ++ [(b, b)]
  | none => l ++ [(b, b)]
theorem addR_nil (b : Nat) : addR [] b = [(b, b)] := rfl
theorem addR_snoc (l : List (Nat × Nat)) (r : Nat × Nat) (b : Nat) : addR (l ++ [r]) b = if r.2 + 1 = b then l ++ [(r.1, b)] else l ++ [r] ++ [(b, b)] := by
  unfold addR
  simp
/-- The runs of some bytes. -/
def runsB (bs : List Nat) : List (Nat × Nat) := bs.foldl addR []
theorem runsB_snoc (bs : List Nat) (b : Nat) : runsB (bs ++ [b]) = addR (runsB bs) b := by unfold runsB; rw [List.foldl_append]; rfl
theorem snoc_cases {α : Type} (l : List α) : l = [] ∨ ∃ l' x, l = l' ++ [x] := by
  rcases List.eq_nil_or_concat l with h | ⟨l', x, h⟩
  · exact Or.inl h
  · exact Or.inr ⟨l', x, by simpa using h⟩
theorem addR_ok {l : List (Nat × Nat)} (h : ∀ r ∈ l, okR r) {b : Nat} (hb : b < 256) : ∀ r ∈ addR l b, okR r := by
  rcases snoc_cases l with rfl | ⟨l', r0, rfl⟩
  · rw [addR_nil]
    intro r hr
    rw [List.mem_singleton.1 hr]
    exact ⟨Nat.le_refl _, hb⟩
  · rw [addR_snoc]
    have h0 := h r0 (by simp)
    intro r hr
    split at hr
    · rename_i e
      rcases List.mem_append.1 hr with hr | hr
      · exact h r (List.mem_append_left _ hr)
      · rw [List.mem_singleton.1 hr]
        exact ⟨by show r0.1 ≤ b; have := h0.1; omega, hb⟩
    · rcases List.mem_append.1 hr with hr | hr
      · exact h r hr
      · rw [List.mem_singleton.1 hr]
        exact ⟨Nat.le_refl _, hb⟩
theorem cov_append (a b : List (Nat × Nat)) (j : Nat) : cov (a ++ b) j = (cov a j || cov b j) := by unfold cov; simp
theorem cov_one (r : Nat × Nat) (j : Nat) : cov [r] j = decide (r.1 ≤ j ∧ j ≤ r.2) := by unfold cov; simp
theorem cov_addR {l : List (Nat × Nat)} (h : ∀ r ∈ l, okR r) (b j : Nat) : cov (addR l b) j = (cov l j || decide (b = j)) := by
  rcases snoc_cases l with rfl | ⟨l', r0, rfl⟩
  · rw [addR_nil, cov_one, show cov [] j = false from rfl, Bool.false_or]
    apply decide_eq_decide.2
    show b ≤ j ∧ j ≤ b ↔ b = j
    omega
  · rw [addR_snoc]
    have h0 := (h r0 (by simp)).1
    split
    · rename_i e
      rw [cov_append, cov_append, cov_one, cov_one, Bool.or_assoc]
      congr 1
      rw [Bool.eq_iff_iff]
      simp
      omega
    · rw [cov_append, cov_one]
      congr 1
      apply decide_eq_decide.2
      show b ≤ j ∧ j ≤ b ↔ b = j
      omega
/-- The bytes of a set below a number. -/
def bytesTo (s : St) (n : Nat) : List Nat := (List.range n).filter (has s)
theorem bytesTo_succ (s : St) (n : Nat) : bytesTo s (n + 1) = if has s n then bytesTo s n ++ [n] else bytesTo s n := by
  unfold bytesTo
  rw [List.range_succ, List.filter_append]
  cases h : has s n <;> simp [h]
theorem runs_all (s : St) : ∀ n, n ≤ 256 → (∀ r ∈ runsB (bytesTo s n), okR r) ∧ ∀ j, cov (runsB (bytesTo s n)) j = (decide (j < n) && has s j)
  | 0, _ => ⟨by intro r hr; simp [bytesTo, runsB] at hr, fun j => by simp [bytesTo, runsB, cov]⟩
  | n + 1, h => by
    obtain ⟨h1, h2⟩ := runs_all s n (by omega)
    rw [bytesTo_succ]
    cases hh : has s n with
    | true =>
      simp only [↓reduceIte]
      rw [runsB_snoc]
      refine ⟨addR_ok h1 (by omega), fun j => ?_⟩
      rw [cov_addR h1, h2]
      by_cases e : n = j
      · subst e; simp [hh]
      · rw [Bool.eq_iff_iff]
        simp [e]
        intro _
        omega
    | false =>
      simp only [Bool.false_eq_true, ↓reduceIte]
      refine ⟨h1, fun j => ?_⟩
      rw [h2]
      by_cases e : n = j
      · subst e; simp [hh]
      · rw [Bool.eq_iff_iff]
        simp
        intro _
        omega
def runsOf (s : St) : List (Nat × Nat) := runsB (bytesTo s 256)

/-- The stretches that a set's text says: two bytes side by side are said one by one. -/
def itemsR (r : Nat × Nat) : List (Nat × Nat) := if r.2 = r.1 + 1 then [(r.1, r.1), (r.2, r.2)] else [r]
def items (l : List (Nat × Nat)) : List (Nat × Nat) := l.flatMap itemsR
theorem items_ok {l : List (Nat × Nat)} (h : ∀ r ∈ l, okR r) : ∀ r ∈ items l, okR r := by
  intro r hr
  obtain ⟨q, hq, hr⟩ := List.mem_flatMap.1 hr
  have h0 := h q hq
  unfold itemsR at hr
  split at hr
  · rename_i e
    simp at hr
    rcases hr with rfl | rfl
    · exact ⟨Nat.le_refl _, by show q.1 < 256; have := h0.2; omega⟩
    · exact ⟨Nat.le_refl _, h0.2⟩
  · rw [List.mem_singleton.1 hr]; exact h0
theorem cov_items (l : List (Nat × Nat)) (j : Nat) : cov (items l) j = cov l j := by
  induction l with
  | nil => rfl
  | cons r rs ih =>
    have e : items (r :: rs) = itemsR r ++ items rs := by unfold items; rw [List.flatMap_cons]
    rw [e, cov_append, ih]
    have e2 : cov (r :: rs) j = (cov [r] j || cov rs j) := by rw [← cov_append]; rfl
    rw [e2]
    congr 1
    unfold itemsR
    split
    · rename_i h
      rw [cov_one]
      unfold cov
      rw [Bool.eq_iff_iff]
      simp
      omega
    · rfl
/-- A set's runs say just the set. -/
theorem set_back (s : St) (h : s.ok) : setOf (items (runsOf s)) zS = s := by
  obtain ⟨h1, h2⟩ := runs_all s 256 (Nat.le_refl _)
  refine St.ext_has (setOf_ok _ _ zS_ok) h fun j hj => ?_
  unfold runsOf
  rw [has_setOf _ _ _ (items_ok h1) hj, has_zS, Bool.false_or, cov_items]
  rw [h2, decide_eq_true hj, Bool.true_and]
end Go.Proofs.Ytfngkdcjifdliaa
