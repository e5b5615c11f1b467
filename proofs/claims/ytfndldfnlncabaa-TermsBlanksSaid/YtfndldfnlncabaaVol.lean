/- Terms that are not heavy have short texts; terms.Print of any term. -/
import Derived.Test.YtfndldfnlncabaaLSame
import Derived.Test.YtfndldfnlncabaaSpell
set_option linter.unusedVariables false
set_option linter.unusedSimpArgs false
set_option linter.unnecessarySimpa false
set_option linter.deprecated false
namespace Go.Proofs.Ytfndldfnlncabaa
open Go.RowKit

theorem okB_size {k : Int} {c : ByteArray} {t : List UInt8} {n : Nat} (h : okB k c.data.toList t n = true) : c.size ≤ 32 := by
  have e : c.size = c.data.toList.length := by simp
  unfold okB at h
  have hemp : c.data.toList.isEmpty = true → c.size ≤ 32 := fun h => by
    have : c.data.toList = [] := by simpa using h
    rw [e, this]; simp
  have hnm : isNameL c.data.toList = true → c.size ≤ 32 := fun h => by
    unfold isNameL at h
    simp only [Bool.and_eq_true, decide_eq_true_eq] at h
    rw [e]; exact h.1.1.2
  repeat' split at h
  all_goals (try simp only [Bool.and_eq_true] at h)
  · exact hnm h.1
  · exact hemp h.1
  · exact hemp h.1
  · exact hemp h.1.1
  · exact hemp h.1.1
  · cases h
mutual
theorem vol_parts : ∀ (T : Tm) (n : Nat) (most : Int), rightB n T = true → parts T most ≤ most → (vol T : Int) + 1 ≤ 300 * parts T most
  | .mk k c t ks, 0, most, hr, h => by rw [rightB] at hr; cases hr
  | .mk k c t ks, n + 1, most, hr, h => by
    rw [rightB, Bool.and_eq_true] at hr
    have hc := okB_size hr.1
    rw [parts] at h ⊢
    rw [vol]
    have := volL_parts ks n (1 + (t.length / 64 : Nat)) most (rightB_all hr.2) h
    omega
theorem volL_parts : ∀ (ks : List Tm) (n : Nat) (m most : Int), (∀ x ∈ ks, rightB n x = true) → partsL ks m most ≤ most → 300 * m + (volL ks : Int) ≤ 300 * partsL ks m most
  | [], n, m, most, hr, h => by rw [partsL, volL]; omega
  | x :: xs, n, m, most, hr, h => by
    rw [partsL] at h ⊢
    rw [volL]
    by_cases hn : m ≤ most
    · rw [if_pos hn] at h ⊢
      have h1 := volL_parts xs n _ _ (fun y hy => hr y (List.mem_cons_of_mem _ hy)) h
      have h0 := partsL_cnt xs _ _ h
      have h2 := vol_parts x n (most - m) (hr x (List.mem_cons_self ..)) (by omega)
      omega
    · rw [if_neg hn] at h
      omega
end
theorem vol_of_heavy {T : Tm} (h : heavyB T = false) (hr : rightB 200 T = true) : vol T ≤ 140737488330000 := by
  unfold heavyB at h
  have := of_decide_eq_false h
  have := vol_parts T 200 1000 hr (by omega)
  omega

set_option maxHeartbeats 1000000 in
theorem Print_free (T : Tm) (v : Value) (w : World) (ht : RT w T v) (hl : heavyB T = false) :
    Calls Try.prog 14 #[v] w fun e w' => e = .returned (.tuple #[.string ⟨(printF T).1.toArray⟩, .int .i64 (printF T).2]) ∧ Below w.heap.size w w' := by
  cases hq : rightB 200 T
  · have hR := fun W (h : Below w.heap.size w W) => Right_any T v W (ht.below h)
    obtain ⟨a1, c1, a2, c2, rfl, hk, hc, hb, hr⟩ := ht.open
    have HR := hide hR
    have hone := hide ((Below.refl _ w).alloc (Nat.le_refl _) (Obj.cells #[Value.int IntKind.i64 T.kind, Value.string T.cons, Value.slice a1 T.text.length c1, Value.slice a2 T.kids.length c2] 25))
    clear ht hR hk hc hb hr hl
    have HF := hide (show printF T = ([], 110) by unfold printF; rw [hq]; rfl)
    go_enter Try.func14, Try.ntmps14
    go_wp2_with (go_at_call 18; ((with_reducible refine (HR.out _ hone.out).mono ?_); rintro e w1 ⟨rfl, hb⟩; have HB := hide (below_next hone.out hb); clear hb))
    go_ret2
    exact ⟨by rw [HF.out]; rfl, HB.out⟩
  · exact Print_any T v w ht (vol_of_heavy hl hq)

/-- What Print gives: a text, or an error and no text. -/
theorem printF_cases (T : Tm) : (rightB 200 T = true ∧ (wrT T []).length ≤ 65536 ∧ wrT T [] = txt T ∧ printF T = (wrT T [], 0)) ∨ (∃ c, (c = 2 ∨ c = 110) ∧ printF T = ([], c)) := by
  unfold printF
  by_cases hq : rightB 200 T = true
  · rw [if_pos hq]
    by_cases hl : (wrT T []).length ≤ 65536
    · rw [if_pos hl]
      refine Or.inl ⟨hq, hl, ?_, rfl⟩
      rcases wrT_txt T [] with h | ⟨h, _⟩
      · simpa using h
      · omega
    · rw [if_neg hl]
      exact Or.inr ⟨2, Or.inl rfl, rfl⟩
  · rw [if_neg hq]
    exact Or.inr ⟨110, Or.inr rfl, rfl⟩
end Go.Proofs.Ytfndldfnlncabaa
