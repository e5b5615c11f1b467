/- The plain law of LayoutNest. -/
import Derived.Test.YtcmhlfnmjpmjhaaPLeaf
set_option linter.unusedVariables false
set_option linter.unusedSimpArgs false
set_option linter.unnecessarySimpa false
set_option linter.deprecated false
namespace Go.Proofs.Ytcmhlfnmjpmjhaa
open Go.RowKit

/-- Blanks behind each break. -/
def shift (n : Nat) (s : List UInt8) : List UInt8 := s.flatMap fun b => if b = 10 then b :: List.replicate n 32 else [b]
theorem shift_append (n : Nat) (a b : List UInt8) : shift n (a ++ b) = shift n a ++ shift n b := by unfold shift; simp
theorem shift_none (n : Nat) (s : List UInt8) (h : (10 : UInt8) ∉ s) : shift n s = s := by
  induction s with
  | nil => rfl
  | cons x xs ih =>
    simp only [List.mem_cons, not_or] at h
    have := ih h.2
    unfold shift at this ⊢
    rw [List.flatMap_cons, this, if_neg (fun e => h.1 e.symm)]
    rfl
theorem shift_wrap (n i : Nat) : shift n (10 :: List.replicate i 32) = 10 :: List.replicate (i + n) 32 := by
  have h := shift_none n (List.replicate i 32) (by intro h; have := List.eq_of_mem_replicate h; cases this)
  unfold shift at h ⊢
  rw [List.flatMap_cons, h, if_pos rfl, List.cons_append, List.replicate_append_replicate, Nat.add_comm]

mutual
/-- All texts are free of breaks. -/
def freeJ : Jb → Prop
  | .text s => (10 : UInt8) ∉ s.data.toList
  | .line s _ _ => (10 : UInt8) ∉ s.data.toList
  | .hard _ => True
  | .many ks _ => freeL ks
def freeL : List Jb → Prop
  | [] => True
  | x :: xs => freeJ x ∧ freeL xs
end
mutual
/-- One job is another, deeper by so much. -/
def deepJ (n : Nat) : Jb → Jb
  | .text s => .text s
  | .line s i f => .line s (i + n) f
  | .hard i => .hard (i + n)
  | .many ks g => .many (deepL n ks) g
def deepL (n : Nat) : List Jb → List Jb
  | [] => []
  | x :: xs => deepJ n x :: deepL n xs
end
mutual
theorem deep_all (n : Nat) : ∀ j, hdJ (deepJ n j) = hdJ j ∧ flJ (deepJ n j) = flJ j ∧ rcJ (deepJ n j) = rcJ j
  | .text s => by rw [deepJ]; exact ⟨rfl, rfl, rfl⟩
  | .line s i f => by rw [deepJ, hdJ, hdJ, flJ, flJ, rcJ, rcJ]; exact ⟨rfl, rfl, rfl⟩
  | .hard i => by rw [deepJ, hdJ, hdJ, flJ, flJ, rcJ, rcJ]; exact ⟨rfl, rfl, rfl⟩
  | .many ks g => by
    obtain ⟨h1, h2, h3⟩ := deep_allL n ks
    rw [deepJ, hdJ, hdJ, flJ, flJ, rcJ, rcJ, h1, h2, h3]
    exact ⟨rfl, rfl, rfl⟩
theorem deep_allL (n : Nat) : ∀ js, hdJL (deepL n js) = hdJL js ∧ flJL (deepL n js) = flJL js ∧ rcJL (deepL n js) = rcJL js
  | [] => by rw [deepL]; exact ⟨rfl, rfl, rfl⟩
  | x :: xs => by
    obtain ⟨h1, h2, h3⟩ := deep_all n x
    obtain ⟨h4, h5, h6⟩ := deep_allL n xs
    rw [deepL, hdJL, hdJL, flJL, flJL, rcJL, rcJL, h1, h2, h3, h4, h5, h6]
    exact ⟨rfl, rfl, rfl⟩
end
mutual
theorem deep_job (n : Nat) : ∀ (d : Dc) (i : Int), jobOf d (i + n) = deepJ n (jobOf d i)
  | .mk k t m ks, i => by
    rw [jobOf, jobOf]
    split
    · rw [deepJ]
    · split
      · rw [deepJ]
      · split
        · rw [deepJ]
        · rw [deepJ, ← deep_jobs n ks]
          congr 2
          split <;> omega
theorem deep_jobs (n : Nat) : ∀ (ks : List Dc) (i : Int), jobsOf ks (i + n) = deepL n (jobsOf ks i)
  | [], i => by rw [jobsOf, jobsOf, deepL]
  | x :: xs, i => by rw [jobsOf, jobsOf, deepL, deep_job n x, deep_jobs n xs]
end
theorem behind_deep (n : Nat) (xs : List Jb) (t : Nat) : behind (deepL n xs) t = behind xs t := by
  unfold behind
  rw [(deep_allL n xs).2.2]

/-- One state is another, deeper by so much. -/
structure Deeper (n : Nat) (a b : Wst) : Prop where
  out : b.out = shift n a.out
  col : b.col = a.col + n
  wid : b.wid = a.wid + n
theorem Deeper.put {n : Nat} {a b : Wst} (h : Deeper n a b) {s : List UInt8} (hs : (10 : UInt8) ∉ s) (ha : (putM s a).long = false) (hb : (putM s b).long = false) : Deeper n (putM s a) (putM s b) := by
  rw [putM_nl ha, putM_nl hb]
  exact ⟨by simp only [h.out, shift_append, shift_none n s hs], by simp only [h.col]; omega, h.wid⟩
theorem Deeper.wrap {n : Nat} {a b : Wst} (h : Deeper n a b) {i j : Nat} (hj : j = i + n) (ha : (wrapM i a).long = false) (hb : (wrapM j b).long = false) : Deeper n (wrapM i a) (wrapM j b) := by
  subst hj
  rw [wrapM_nl ha, wrapM_nl hb]
  exact ⟨by simp only [h.out, shift_append, shift_wrap], rfl, h.wid⟩
theorem Deeper.fit {n : Nat} {a b : Wst} (h : Deeper n a b) (ks : List Jb) (t : Nat) : fitT (deepL n ks) t b = fitT ks t a := by
  unfold fitT
  rw [(deep_allL n ks).1, (deep_allL n ks).2.1, h.col, h.wid]
  congr 1
  apply decide_eq_decide.2
  push_cast
  omega
mutual
theorem lay_deep (n : Nat) : ∀ (j : Jb) (fl : Bool) (t : Nat) (a b : Wst), freeJ j → indD j = true → Deeper n a b → (layJ j fl t a).long = false → (layJ (deepJ n j) fl t b).long = false → Deeper n (layJ j fl t a) (layJ (deepJ n j) fl t b)
  | .text s, fl, t, a, b, hf, hi, h, ha, hb => by
    have la := layJ_nl ha
    have lb := layJ_nl hb
    rw [freeJ] at hf
    rw [deepJ] at hb ⊢
    rw [layJ_text la] at ha ⊢
    rw [layJ_text lb] at hb ⊢
    exact h.put hf ha hb
  | .line s i f, fl, t, a, b, hf, hi, h, ha, hb => by
    have la := layJ_nl ha
    have lb := layJ_nl hb
    rw [freeJ] at hf
    rw [indD] at hi
    have hi' := of_decide_eq_true hi
    rw [deepJ] at hb ⊢
    rw [layJ_line la] at ha ⊢
    rw [layJ_line lb] at hb ⊢
    cases hc : (f || fl) with
    | true =>
      simp only [hc, ↓reduceIte] at ha hb ⊢
      exact h.put hf ha hb
    | false =>
      simp only [hc, Bool.false_eq_true, ↓reduceIte] at ha hb ⊢
      exact h.wrap (by omega) ha hb
  | .hard i, fl, t, a, b, hf, hi, h, ha, hb => by
    have la := layJ_nl ha
    have lb := layJ_nl hb
    rw [indD] at hi
    have hi' := of_decide_eq_true hi
    rw [deepJ] at hb ⊢
    rw [layJ_hard la] at ha ⊢
    rw [layJ_hard lb] at hb ⊢
    exact h.wrap (by omega) ha hb
  | .many ks g, fl, t, a, b, hf, hi, h, ha, hb => by
    have la := layJ_nl ha
    have lb := layJ_nl hb
    rw [freeJ] at hf
    rw [indD] at hi
    rw [deepJ] at hb ⊢
    rw [layJ_many la] at ha ⊢
    rw [layJ_many lb, h.fit] at hb ⊢
    cases hc : (g && !fl) with
    | true =>
      simp only [hc, ↓reduceIte] at ha hb ⊢
      cases hft : fitT ks t a with
      | true =>
        simp only [hft, ↓reduceIte] at ha hb ⊢
        exact lay_deepL n ks true t a b hf hi h ha hb
      | false =>
        simp only [hft, Bool.false_eq_true, ↓reduceIte] at ha hb ⊢
        exact lay_deepL n ks false t _ _ hf hi ⟨h.out, h.col, h.wid⟩ ha hb
    | false =>
      simp only [hc, Bool.false_eq_true, ↓reduceIte] at ha hb ⊢
      exact lay_deepL n ks fl t a b hf hi h ha hb
theorem lay_deepL (n : Nat) : ∀ (js : List Jb) (fl : Bool) (t : Nat) (a b : Wst), freeL js → indDL js = true → Deeper n a b → (layL js fl t a).long = false → (layL (deepL n js) fl t b).long = false → Deeper n (layL js fl t a) (layL (deepL n js) fl t b)
  | [], fl, t, a, b, hf, hi, h, ha, hb => by rw [deepL, layL, layL]; exact h
  | x :: xs, fl, t, a, b, hf, hi, h, ha, hb => by
    rw [freeL] at hf
    rw [indDL, Bool.and_eq_true] at hi
    rw [deepL, layL_cons, behind_deep] at hb
    rw [layL_cons] at ha
    rw [deepL, layL_cons, layL_cons, behind_deep]
    exact lay_deepL n xs fl t _ _ hf.2 hi.2 (lay_deep n x fl _ a b hf.1 hi.1 h (layL_nl ha) (layL_nl hb)) ha hb
end

theorem not_mem_of_index {s : List UInt8} (h : Lib.indexByte s 10 < 0) : (10 : UInt8) ∉ s := by
  have h1 : Lib.indexByte s 10 = -1 := by have := Lib.indexByte_ge s 10; omega
  intro hm
  obtain ⟨k, hk⟩ := List.mem_iff_getElem?.1 hm
  exact Lib.indexByte_none h1 k hk
mutual
theorem free_job : ∀ (d : Dc) (lev : Nat) (i : Int), rtB lev d = true → freeJ (jobOf d i)
  | d, 0, i, h => by rw [rtB] at h; cases h
  | .mk k t n ks, lev + 1, i, h => by
    rw [rtB, Bool.and_eq_true] at h
    rw [jobOf]
    have h12 : k = 1 ∨ k = 2 → (10 : UInt8) ∉ t.data.toList := fun hk => by
      have h1 := h.1
      unfold okK at h1
      rw [if_pos hk] at h1
      simp at h1
      exact not_mem_of_index h1.1.1
    by_cases h1 : k = 1
    · rw [if_pos h1, freeJ]; exact h12 (Or.inl h1)
    · rw [if_neg h1]
      by_cases h2 : k = 2
      · rw [if_pos h2, freeJ]; exact h12 (Or.inr h2)
      · rw [if_neg h2]
        by_cases h3 : k = 3
        · rw [if_pos h3, freeJ]; trivial
        · rw [if_neg h3, freeJ]
          exact free_jobs ks lev _ h.2
theorem free_jobs : ∀ (ks : List Dc) (lev : Nat) (i : Int), ks.all (rtB lev) = true → freeL (jobsOf ks i)
  | [], lev, i, h => by rw [jobsOf, freeL]; trivial
  | x :: xs, lev, i, h => by
    rw [List.all_cons, Bool.and_eq_true] at h
    rw [jobsOf, freeL]
    exact ⟨free_job x lev i h.1, free_jobs xs lev i h.2⟩
end
def hardD : Dc := .mk 3 emptyB 0 []
def plainD (d : Dc) : Dc := .mk 6 emptyB 0 [hardD, d]
def deepD (n : Int) (d : Dc) : Dc := .mk 4 emptyB n [hardD, d]
theorem rend_ok {d : Dc} {w : Int} {s : ByteArray} (h : rendM d w = (s, 0)) : rtB 200 d = true ∧ (outM d w).long = false ∧ s = ⟨(outM d w).out.toArray⟩ := by
  unfold rendM at h
  cases hr : rtB 200 d with
  | false => rw [hr] at h; simp at h
  | true =>
    rw [hr, if_pos rfl] at h
    cases hl : (outM d w).long with
    | true => rw [hl] at h; simp at h
    | false => rw [hl] at h; simp at h; exact ⟨rfl, rfl, h.symm⟩
theorem nest_same (d : Dc) (n : Nat) (width : Int) (h0 : 0 ≤ width) (s t : ByteArray) (hs : rendM (plainD d) width = (s, 0)) (ht : rendM (deepD n d) (width + n) = (t, 0)) : t.data.toList = shift n s.data.toList := by
  obtain ⟨r1, l1, rfl⟩ := rend_ok hs
  obtain ⟨r2, l2, rfl⟩ := rend_ok ht
  have hj1 : jobOf (plainD d) 0 = .many [.hard 0, jobOf d 0] false := by unfold plainD hardD; simp [jobOf, jobsOf]
  have hj2 : jobOf (deepD n d) 0 = .many [.hard n, jobOf d (0 + n)] false := by unfold deepD hardD; simp [jobOf, jobsOf]
  rw [plainD, rtB, Bool.and_eq_true] at r1
  simp only [List.all_cons, List.all_nil, Bool.and_true, Bool.and_eq_true] at r1
  have hd := r1.2.2
  obtain ⟨_, _, _, _, hi⟩ := jobOf_all d 199 0 hd (by omega) (by omega)
  have hfr := free_job d 199 0 hd
  have hb : behind [deepJ n (jobOf d 0)] 0 = behind [jobOf d 0] 0 := behind_deep n [jobOf d 0] 0
  have E1 : outM (plainD d) width = layJ (jobOf d 0) false (behind [] 0) (layJ (.hard 0) false (behind [jobOf d 0] 0) (st0 width)) := by
    rw [outM_lay, hj1, layJ_many rfl, if_neg (by simp), layL_cons, layL_cons, layL]
  have E2 : outM (deepD n d) (width + n) = layJ (deepJ n (jobOf d 0)) false (behind [] 0) (layJ (.hard n) false (behind [jobOf d 0] 0) (st0 (width + n))) := by
    rw [outM_lay, hj2, layJ_many rfl, if_neg (by simp), layL_cons, layL_cons, layL, deep_job, hb]
  rw [E1] at l1 ⊢
  rw [E2] at l2 ⊢
  have m1 := layJ_nl l1
  have m2 := layJ_nl l2
  have hD : Deeper n (layJ (.hard 0) false (behind [jobOf d 0] 0) (st0 width)) (layJ (.hard n) false (behind [jobOf d 0] 0) (st0 (width + n))) := by
    rw [layJ_hard rfl] at m1 m2
    rw [layJ_hard rfl, layJ_hard rfl]
    rw [wrapM_nl m1, wrapM_nl m2]
    refine ⟨?_, ?_, ?_⟩
    · simp only [st0, List.nil_append]
      have := shift_wrap n 0
      simpa using this.symm
    · simp
    · simp only [st0]; omega
  have := lay_deep n (jobOf d 0) false _ _ _ hfr hi hD l1 l2
  simpa using this.out
end Go.Proofs.Ytcmhlfnmjpmjhaa
