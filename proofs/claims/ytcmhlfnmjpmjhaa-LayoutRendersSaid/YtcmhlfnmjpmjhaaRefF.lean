/- The walk of the reference's fits. -/
import Derived.Test.YtcmhlfnmjpmjhaaRefL
set_option linter.unusedVariables false
set_option linter.unusedSimpArgs false
set_option linter.unnecessarySimpa false
set_option linter.deprecated false
namespace Go.Proofs.Ytcmhlfnmjpmjhaa
open Go.RowKit

/-- How many bytes leaves are. -/
def szL : List Dc → Nat
  | [] => 0
  | x :: xs => x.text.size + szL xs
/-- Is one of them hard? -/
def hdL : List Dc → Bool
  | [] => false
  | x :: xs => x.kind == 3 || hdL xs
/-- The bytes of the texts ahead of the first break. -/
def tlL : List Dc → Nat
  | [] => 0
  | x :: xs => if x.kind = 1 then x.text.size + tlL xs else 0
theorem szL_flat (l : List Dc) : szL l = (l.flatMap ltx).length := by
  induction l with
  | nil => rfl
  | cons x xs ih => rw [szL, ih, List.flatMap_cons, List.length_append, ltx_len]
theorem tlL_le (l : List Dc) : tlL l ≤ szL l := by
  induction l with
  | nil => exact Nat.le_refl _
  | cons x xs ih => rw [tlL, szL]; split <;> omega
theorem szL_app (a b : List Dc) : szL (a ++ b) = szL a + szL b := by
  induction a with
  | nil => rw [szL]; simp
  | cons x xs ih => rw [List.cons_append, szL, szL, ih]; omega
theorem szL_part (l : List Dc) (k : Nat) : szL (l.drop k) ≤ szL l := by
  conv => rhs; rw [← List.take_append_drop k l, szL_app]
  omega
theorem szL_take (l : List Dc) (k : Nat) : szL (l.take k) ≤ szL l := by
  conv => rhs; rw [← List.take_append_drop k l, szL_app]
  omega
def fitL (a r : List Dc) (st : Wst) : Bool := !hdL a && decide ((st.col : Int) + (szL a : Int) + (tlL r : Int) ≤ st.wid)

set_option maxHeartbeats 4000000 in
set_option maxRecDepth 100000 in
theorem fits_any (B b n m : Nat) (l : List Dc) (aL : Option Addr) (cL BL : Nat) (st : Wst) (w : World) (h : WR B b (.slice aL l.length cL) n st w) (hrow : w.ownsRow BL 24 4 (.slice aL l.length cL) l.length (lfC l)) (hn : n + m ≤ l.length) (hnl : l.length ≤ 1000000)
    (hsz : szL l ≤ 1000000) (hc : st.col ≤ 65536) :
    Calls Try.prog 32 #[.pointer (some ⟨b, 0, none⟩), .int .i64 (m : Int)] w fun e w' => e = .returned (.bool (fitL ((l.drop n).take m) (l.drop (n + m)) st)) ∧ w' = w := by
  have hB := h.ge
  obtain ⟨aL', cL', e9, hat⟩ := own_shape hrow
  obtain ⟨rfl, rfl⟩ : aL = aL' ∧ cL = cL' := by injection e9 with e1 _ e2; exact ⟨e1, e2⟩
  have HAT := hide (show ∀ i (hi : i < l.length), ∃ g, aL = some ⟨g, 0, none⟩ ∧ g < w.heap.size ∧ w.cell? ⟨g, i * 4, none⟩ = some (.int .i64 l[i].kind) ∧ w.cell? ⟨g, i * 4 + 1, none⟩ = some (.string l[i].text) from fun i hi => by
    obtain ⟨g, hg, _, hgl, hcell⟩ := hat (by omega)
    obtain ⟨y0, y1, _, _⟩ := lfC_get l i hi
    exact ⟨g, hg, hgl, hcell _ _ y0, hcell _ _ y1⟩)
  obtain ⟨c0, c1, c3, c4, _, _, bl, _⟩ := h.cells
  obtain ⟨S, hS⟩ : ∃ S, st.col + szL ((l.drop n).take m) = S := ⟨_, rfl⟩
  obtain ⟨H, hH⟩ : ∃ H, hdL ((l.drop n).take m) = H := ⟨_, rfl⟩
  have hSb : S ≤ 1065536 := by rw [← hS]; have h1 := szL_take (l.drop n) m; have h2 := szL_part l n; omega
  have HF := hide (show fitL ((l.drop n).take m) (l.drop (n + m)) st = (!H && decide ((S : Int) + (tlL (l.drop (n + m)) : Int) ≤ st.wid)) by
    unfold fitL; rw [hH, ← hS]; push_cast; rfl)
  rw [HF.out]
  have HS := hide hS
  have HH := hide hH
  have HSZ := hide hsz
  clear h hrow hat e9 hS hH hsz
  go_enter Try.func32, Try.ntmps32
  go_wp2_with fail
  go_loopg [5, 6] m (fun u v5 v6 wr => ∃ k s : Nat, Hid (u = m - k) ∧ k ≤ m ∧ v5 = .int .i64 (s : Int) ∧ v6 = .int .i64 ((n + k : Nat) : Int) ∧ Hid (s + szL (((l.drop n).take m).drop k) = S ∧ hdL (((l.drop n).take m).drop k) = H) ∧ wr = w)
  case atStart => exact ⟨0, st.col, rfl, Nat.zero_le _, rfl, rfl, ⟨by rw [List.drop_zero]; exact HS.out, by rw [List.drop_zero]; exact HH.out⟩, rfl⟩
  case round =>
    obtain ⟨k, s, hu, hkm, rfl, rfl, hin, hwr⟩ := hrel
    have hwr2 := hwr.symm
    clear hwr
    subst hwr2
    by_cases hk : k < m
    · have hki : ((n + k : Nat) : Int) < (n : Int) + (m : Int) := by omega
      have hnk : n + k < l.length := by omega
      have hnki : ((n + k : Nat) : Int) < (l.length : Int) := by omega
      obtain ⟨g, rfl, hgl, z0, z1⟩ := HAT.out (n + k) hnk
      have hde : ((l.drop n).take m).drop k = l[n + k] :: ((l.drop n).take m).drop (k + 1) := by
        rw [List.drop_eq_getElem_cons (by rw [List.length_take, List.length_drop]; omega)]
        congr 1
        rw [List.getElem_take, List.getElem_drop]
      have hi1 := hin.out.1
      have hi2 := hin.out.2
      rw [hde, szL] at hi1
      rw [hde, hdL] at hi2
      obtain ⟨kk, hkk⟩ : ∃ x, l[n + k].kind = x := ⟨_, rfl⟩
      obtain ⟨tx, htx⟩ : ∃ x, l[n + k].text = x := ⟨_, rfl⟩
      rw [hkk] at z0 hi2
      rw [htx] at z1 hi1
      have HI1 := hide hi1
      have HI2 := hide hi2
      have hsb : s + tx.size ≤ 1065536 := by omega
      clear hde hkk htx hi1 hi2
      by_cases k3 : kk = 3
      · subst k3
        have HE := hide (show H = true by rw [← HI2.out]; rfl)
        go_wp2_with fail
        go_ret
        exact ⟨by rw [HE.out]; rfl, rfl⟩
      · have m3 : (kk == 3) = false := by rw [beq_eq_false_iff_ne]; exact k3
        rw [m3, Bool.false_or] at HI2
        go_wp2_with fail
        go_roundg (m - (k + 1))
        case measure => rw [hu.out]; omega
        case rel => exact ⟨k + 1, s + tx.size, rfl, hk, by go_num, by go_num, ⟨by have := HI1.out; omega, HI2.out⟩, rfl⟩
    · obtain rfl : k = m := by omega
      have hki : ¬ ((n + k : Nat) : Int) < (n : Int) + (k : Int) := by omega
      have hde : ((l.drop n).take k).drop k = [] := List.drop_eq_nil_of_le (by rw [List.length_take]; omega)
      have hi1 := hin.out.1
      have hi2 := hin.out.2
      rw [hde, szL, Nat.add_zero] at hi1
      rw [hde, hdL] at hi2
      subst hi1 hi2
      clear hin hde
      go_wp2_with fail
      obtain ⟨T, hT⟩ : ∃ T, s + tlL (l.drop (n + k)) = T := ⟨_, rfl⟩
      have hTb : T ≤ 3000000 := by rw [← hT]; have h1 := tlL_le (l.drop (n + k)); have h2 := szL_part l (n + k); have := HSZ.out; omega
      have HTT := hide hT
      clear hT
      go_loopg [5, 7] (l.length - (n + k)) (fun u v5 v7 wr => ∃ i s2 : Nat, Hid (u = l.length - i) ∧ i ≤ l.length ∧ v5 = .int .i64 (s2 : Int) ∧ v7 = .int .i64 (i : Int) ∧ Hid (s2 + tlL (l.drop i) = T) ∧ wr = w)
      case atStart => exact ⟨n + k, s, rfl, by omega, rfl, by go_num, HTT, rfl⟩
      case round =>
        obtain ⟨i, s2, hu2, hil, rfl, rfl, hin2, hwr⟩ := hrel
        have hwr2 := hwr.symm
        clear hwr
        subst hwr2
        by_cases hi : i < l.length
        · have hii : (i : Int) < (l.length : Int) := by omega
          obtain ⟨g, rfl, hgl, z0, z1⟩ := HAT.out i hi
          have hq := hin2.out
          rw [List.drop_eq_getElem_cons hi, tlL] at hq
          obtain ⟨kk, hkk⟩ : ∃ x, l[i].kind = x := ⟨_, rfl⟩
          obtain ⟨tx, htx⟩ : ∃ x, l[i].text = x := ⟨_, rfl⟩
          rw [hkk] at z0 hq
          rw [htx] at z1 hq
          clear hkk htx hin2
          by_cases k1 : kk = 1
          · subst k1
            rw [if_pos rfl] at hq
            have HQ := hide hq
            have hsb : s2 + tx.size ≤ 3000000 := by omega
            clear hq
            go_wp2_with fail
            go_roundg (l.length - (i + 1))
            case measure => rw [hu2.out]; omega
            case rel => exact ⟨i + 1, s2 + tx.size, rfl, hi, by go_num, by go_num, by have := HQ.out; show s2 + tx.size + _ = T; omega, rfl⟩
          · have m1 : (kk == 1) = false := by rw [beq_eq_false_iff_ne]; exact k1
            rw [if_neg k1, Nat.add_zero] at hq
            have HE := hide (show decide ((s : Int) + (tlL (l.drop (n + k)) : Int) ≤ st.wid) = decide ((s2 : Int) ≤ st.wid) by rw [hq, ← HTT.out]; push_cast; rfl)
            clear hq
            go_wp2_with fail
            go_ret
            exact ⟨by rw [HE.out]; simp, rfl⟩
        · obtain rfl : i = l.length := by omega
          have hii : ¬ (l.length : Int) < (l.length : Int) := by omega
          have hq := hin2.out
          rw [List.drop_length, tlL, Nat.add_zero] at hq
          have HE := hide (show decide ((s : Int) + (tlL (l.drop (n + k)) : Int) ≤ st.wid) = decide ((s2 : Int) ≤ st.wid) by rw [hq, ← HTT.out]; push_cast; rfl)
          clear hq hin2
          go_wp2_with fail
          go_ret
          exact ⟨by rw [HE.out]; simp, rfl⟩
end Go.Proofs.Ytcmhlfnmjpmjhaa
