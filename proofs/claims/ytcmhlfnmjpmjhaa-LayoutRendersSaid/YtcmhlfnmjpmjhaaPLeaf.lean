/- A document's leaves, and what of them stands in what is written. -/
import Derived.Test.YtcmhlfnmjpmjhaaPLay
set_option linter.unusedVariables false
set_option linter.unusedSimpArgs false
set_option linter.unnecessarySimpa false
set_option linter.deprecated false
namespace Go.Proofs.Ytcmhlfnmjpmjhaa
open Go.RowKit

mutual
/-- A document's leaves. -/
def leafs : Dc → List Dc
  | .mk k t n ks => if k = 1 ∨ k = 2 ∨ k = 3 then [.mk k t n []] else leafsL ks
def leafsL : List Dc → List Dc
  | [] => []
  | x :: xs => leafs x ++ leafsL xs
end
mutual
/-- The texts of a job. -/
def txJ : Jb → List UInt8
  | .text s => s.data.toList
  | .line s _ _ => s.data.toList
  | .hard _ => []
  | .many ks _ => txJL ks
def txJL : List Jb → List UInt8
  | [] => []
  | x :: xs => txJ x ++ txJL xs
end
mutual
theorem txJ_len : ∀ j, (txJ j).length = flJ j
  | .text s => by rw [txJ, flJ]; rfl
  | .line s _ _ => by rw [txJ, flJ]; rfl
  | .hard _ => by rw [txJ, flJ]; rfl
  | .many ks _ => by rw [txJ, flJ]; exact txJL_len ks
theorem txJL_len : ∀ js, (txJL js).length = flJL js
  | [] => by rw [txJL, flJL]; rfl
  | x :: xs => by rw [txJL, flJL, List.length_append, txJ_len x, txJL_len xs]
end
mutual
/-- What is flat, and not too long, is written as its texts. -/
theorem lay_flat : ∀ (j : Jb) (t : Nat) (st : Wst), hdJ j = false → st.long = false → st.out.length + flJ j ≤ 65536 → layJ j true t st = { st with out := st.out ++ txJ j, col := st.col + flJ j }
  | .text s, t, st, hh, hl, hn => by
    rw [flJ] at hn
    rw [layJ, if_neg (by rw [hl]; simp), putM, if_pos (by simpa using hn), txJ, flJ]
    rfl
  | .line s i f, t, st, hh, hl, hn => by
    rw [flJ] at hn
    rw [layJ, if_neg (by rw [hl]; simp), if_pos (by simp), putM, if_pos (by simpa using hn), txJ, flJ]
    rfl
  | .hard i, t, st, hh, hl, hn => by rw [hdJ] at hh; cases hh
  | .many ks g, t, st, hh, hl, hn => by
    rw [hdJ] at hh
    rw [flJ] at hn
    rw [layJ, if_neg (by rw [hl]; simp), if_neg (by simp), txJ, flJ]
    exact lay_flatL ks t st hh hl hn
theorem lay_flatL : ∀ (js : List Jb) (t : Nat) (st : Wst), hdJL js = false → st.long = false → st.out.length + flJL js ≤ 65536 → layL js true t st = { st with out := st.out ++ txJL js, col := st.col + flJL js }
  | [], t, st, hh, hl, hn => by rw [layL, txJL, flJL, List.append_nil]; rfl
  | x :: xs, t, st, hh, hl, hn => by
    rw [hdJL, Bool.or_eq_false_iff] at hh
    rw [flJL] at hn
    rw [layL, lay_flat x _ st hh.1 hl (by omega)]
    rw [lay_flatL xs t { st with out := st.out ++ txJ x, col := st.col + flJ x } hh.2 hl (by simp only [List.length_append, txJ_len]; omega)]
    rw [txJL, flJL, List.append_assoc, Nat.add_assoc]
end

/-- A leaf's text, with none for what is hard. -/
def ltx (x : Dc) : List UInt8 := x.text.data.toList
theorem okK_len {k n : Int} {t : ByteArray} {l : Nat} (h : okK k t n l = true) (hk : k = 1 ∨ k = 2 ∨ k = 3) : l = 0 ∧ n = 0 := by
  unfold okK at h
  rcases hk with rfl | rfl | rfl <;> simp at h <;> omega
theorem okK_text {k n : Int} {t : ByteArray} {l : Nat} (h : okK k t n l = true) (hk : ¬(k = 1 ∨ k = 2)) : t.data.toList = [] := by
  unfold okK at h
  rw [if_neg hk] at h
  have e : t.toList = t.data.toList := ByteArray.toList_eq t
  rw [← e]
  split at h
  · simp at h; exact h.1.1
  · split at h
    · simp at h; exact h.1.1
    · split at h
      · simp at h; exact h.1
      · cases h
theorem flatMap_leafs_append (a b : List Dc) (f : Dc → List UInt8) : (a ++ b).flatMap f = a.flatMap f ++ b.flatMap f := by simp
mutual
theorem tx_leafs : ∀ (d : Dc) (lev : Nat) (i : Int), rtB lev d = true → txJ (jobOf d i) = (leafs d).flatMap ltx ∧ hdJ (jobOf d i) = (leafs d).any (fun x => x.kind == 3)
  | d, 0, i, h => by rw [rtB] at h; cases h
  | .mk k t n ks, lev + 1, i, h => by
    rw [rtB, Bool.and_eq_true] at h
    rw [jobOf, leafs]
    by_cases h1 : k = 1
    · subst h1
      rw [if_pos rfl, if_pos (Or.inl rfl), txJ, hdJ]
      simp [ltx, Dc.text, Dc.kind]
    · rw [if_neg h1]
      by_cases h2 : k = 2
      · subst h2
        rw [if_pos rfl, if_pos (Or.inr (Or.inl rfl)), txJ, hdJ]
        simp [ltx, Dc.text, Dc.kind]
      · rw [if_neg h2]
        by_cases h3 : k = 3
        · subst h3
          rw [if_pos rfl, if_pos (Or.inr (Or.inr rfl)), txJ, hdJ]
          have := okK_text h.1 (by omega)
          simp [ltx, Dc.text, Dc.kind, this]
        · rw [if_neg h3, if_neg (show ¬ (k = 1 ∨ k = 2 ∨ k = 3) by omega), txJ, hdJ]
          exact tx_leafsL ks lev _ h.2
theorem tx_leafsL : ∀ (ks : List Dc) (lev : Nat) (i : Int), ks.all (rtB lev) = true → txJL (jobsOf ks i) = (leafsL ks).flatMap ltx ∧ hdJL (jobsOf ks i) = (leafsL ks).any (fun x => x.kind == 3)
  | [], lev, i, h => by rw [jobsOf, txJL, hdJL, leafsL]; exact ⟨rfl, rfl⟩
  | x :: xs, lev, i, h => by
    rw [List.all_cons, Bool.and_eq_true] at h
    obtain ⟨a1, a2⟩ := tx_leafs x lev i h.1
    obtain ⟨b1, b2⟩ := tx_leafsL xs lev i h.2
    rw [jobsOf, txJL, hdJL, leafsL, List.flatMap_append, List.any_append, a1, a2, b1, b2]
    exact ⟨rfl, rfl⟩
end

/-- What Flat answers. -/
def flatM (d : Dc) : ByteArray × Int := if rtB 200 d then (if (leafs d).any (fun x => x.kind == 3) then (emptyB, 4) else (⟨((leafs d).flatMap ltx).toArray⟩, 0)) else (emptyB, 140)
def grp1 (d : Dc) : Dc := .mk 5 emptyB 0 [d]
theorem flat_grp (d : Dc) (width : Int) (hf : (flatM d).2 = 0) (hg : rtB 200 (grp1 d) = true) (hv : vol d ≤ 65536) (hw : ((flatM d).1.size : Int) ≤ width) :
    rendM (grp1 d) width = ((flatM d).1, 0) ∧ brokM (grp1 d) width = (0, 0) := by
  unfold flatM at hf hw ⊢
  cases hr : rtB 200 d with
  | false => rw [hr] at hf; simp at hf
  | true =>
    rw [hr, if_pos rfl] at hf hw
    rw [if_pos rfl]
    cases hh : (leafs d).any (fun x => x.kind == 3) with
    | true => rw [hh] at hf; simp at hf
    | false =>
      rw [hh, if_neg (by simp)] at hf hw
      rw [if_neg (by simp)]
      obtain ⟨t1, t2⟩ := tx_leafs d 200 0 hr
      obtain ⟨_, _, _, w3, _⟩ := jobOf_all d 200 0 hr (by omega) (by omega)
      have hlen : flJ (jobOf d 0) = ((leafs d).flatMap ltx).length := by rw [← t1, txJ_len]
      have hsz : (flJ (jobOf d 0) : Int) ≤ width := by
        rw [hlen]
        simpa [ByteArray.size] using hw
      have hj : jobOf (grp1 d) 0 = .many [jobOf d 0] true := by unfold grp1; simp [jobOf, jobsOf]
      have ho : outM (grp1 d) width = { st0 width with out := txJ (jobOf d 0), col := flJ (jobOf d 0) } := by
        rw [outM_lay, hj, layJ, if_neg (by simp [st0]), if_pos (by simp)]
        rw [if_pos]
        · rw [layL, layL, lay_flat _ _ _ (by rw [t2, hh]) rfl (by show 0 + _ ≤ _; omega)]
          simp [st0]
        · unfold fitT
          rw [hdJL, hdJL, flJL, flJL, t2, hh]
          simp [st0]
          omega
      unfold rendM brokM
      rw [ho, hg, t1]
      simp [st0]
end Go.Proofs.Ytcmhlfnmjpmjhaa
