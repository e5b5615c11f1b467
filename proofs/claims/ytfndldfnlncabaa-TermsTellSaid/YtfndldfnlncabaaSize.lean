/- The walk of terms.Size. -/
import Derived.Test.YtfndldfnlncabaaPlain
import Derived.Test.YtfndldfnlncabaaMem
import Derived.Deep.LoopGhost
namespace Go.Proofs.Ytfndldfnlncabaa
set_option linter.unnecessarySimpa false
set_option linter.deprecated false
open Go.RowKit
set_option linter.unusedVariables false
set_option linter.unusedSimpArgs false

structure SizeRel (w : World) (C D : Nat) (ks : List Tm) (k c d : Nat) (w2 : World) : Prop where
  below : Below w.heap.size w w2
  le : k ≤ ks.length
  cnt : c + cntL (ks.drop k) = C
  dep : depF d (ks.drop k) = D

set_option maxHeartbeats 2000000 in
set_option maxRecDepth 100000 in
theorem size_any : ∀ (T : Tm), cnt T ≤ 4611686018427387904 → ∀ (v : Value) (w : World), RT w T v → Calls Try.prog 24 #[v] w fun e w' => e = .returned (.tuple #[.int .i64 (cnt T : Int), .int .i64 (dep T : Int)]) ∧ Below w.heap.size w w' := by
  refine Tm.induct fun kd cs tx ks ih => ?_
  intro hb v w hT
  obtain ⟨a1, c1, a2, c2, rfl, _, _, _, hks⟩ := hT.open
  simp only [Tm.kind, Tm.cons, Tm.text, Tm.kids] at hks ⊢
  have hdc := dep_le_cnt (.mk kd cs tx ks)
  rw [cnt] at hb hdc ⊢
  rw [dep] at hdc ⊢
  have hlen := hks.1
  have HK := hide hks
  have HI := hide ih
  have HD := hide (depF_eq ks 0)
  clear hks ih hT
  generalize hC : 1 + cntL ks = C at hb hdc ⊢
  generalize hDD : depL ks = D at hdc ⊢
  have HC := hide hC
  have HDD := hide hDD
  clear hC hDD
  go_enter Try.func24, Try.ntmps24
  go_wp2_with fail
  go_loopg [4, 5, 13] ks.length (fun n v4 v5 v13 wr => ∃ k c d : Nat, Hid (n = ks.length - k) ∧ v4 = .int .i64 (c : Int) ∧ v5 = .int .i64 (d : Int) ∧ v13 = .int .i64 (k : Int) ∧ Hid (SizeRel w C D ks k c d wr))
  case atStart =>
    refine ⟨0, 1, 0, rfl, rfl, rfl, rfl, hide ⟨?_, Nat.zero_le _, by rw [List.drop_zero]; exact HC.out, ?_⟩⟩
    · exact (Below.refl _ _).alloc (Nat.le_refl _) _
    · rw [List.drop_zero, HD.out, HDD.out]; omega
  case round =>
    obtain ⟨k, c, d, hn, rfl, rfl, rfl, hr⟩ := hrel
    have hk := hr.out.le
    by_cases hlt : k < ks.length
    · obtain ⟨bk, ok, x1, k1, x3, k3, rfl, hbl, e0, e1, e2, e3, hx⟩ := HK.out.get k hlt
      have hbelow := hr.out.below
      have e0' := (hbelow.cell (p := ⟨bk, ok + k * 4, none⟩) hbl).trans e0
      have e1' := (hbelow.cell (p := ⟨bk, ok + k * 4 + 1, none⟩) hbl).trans e1
      have e2' := (hbelow.cell (p := ⟨bk, ok + k * 4 + 2, none⟩) hbl).trans e2
      have e3' := (hbelow.cell (p := ⟨bk, ok + k * 4 + 3, none⟩) hbl).trans e3
      have hbl' := Nat.lt_of_lt_of_le hbl hbelow.size
      have hcnt := hr.out.cnt
      have hdep := hr.out.dep
      rw [cntL_drop ks k hlt] at hcnt
      rw [depF_drop ks k d hlt] at hdep
      have hdl := dep_le_cnt ks[k]
      have hd0 : d ≤ D := by
        have h := hr.out.dep
        rw [depF_eq] at h
        omega
      have HX := hide (HI.out ks[k] (List.getElem_mem hlt) (by omega) _ (wr.alloc (.cells #[.int .i64 ks[k].kind, .string ks[k].cons, .slice x1 ks[k].text.length k1, .slice x3 ks[k].kids.length k3] 25)) (RT.below (hbelow.alloc hbelow.size _) hx))
      have hlti : (k : Int) < (ks.length : Int) := by omega
      have HB := hide (hbelow.alloc hbelow.size (.cells #[.int .i64 ks[k].kind, .string ks[k].cons, .slice x1 ks[k].text.length k1, .slice x3 ks[k].kids.length k3] 25))
      have hws := hbelow.size
      have HC2 := hide hcnt
      have HD2 := hide hdep
      have hi1 : (c : Int) + (cnt ks[k] : Int) ≤ 4611686018427387904 := by omega
      clear hx e0 e1 e2 e3 hbelow hcnt hdep
      go_wp2_with fail
      refine HX.out.mono ?_
      rintro e w2 ⟨rfl, h2⟩
      have HB2 := hide (below_next HB.out h2)
      clear h2
      go_wp2_with fail
      all_goals
        go_roundg (ks.length - (k + 1))
        case measure => rw [hn.out]; omega
        case rel =>
          refine ⟨k + 1, c + cnt ks[k], max d (dep ks[k]), rfl, ?_, ?_, ?_, hide ⟨HB2.out, hlt, ?_, HD2.out⟩⟩
          · congr 1
          · congr 1; omega
          · congr 1
          · have := HC2.out; omega
    · have h1 := hr.out.cnt
      have h2 := hr.out.dep
      rw [List.drop_eq_nil_of_le (by omega)] at h1 h2
      simp only [cntL, depF, Nat.add_zero] at h1 h2
      subst h1 h2
      have hlti : ¬ (k : Int) < (ks.length : Int) := by omega
      go_wp2_with fail
      go_ret2
      exact ⟨rfl, hr.out.below⟩
end Go.Proofs.Ytfndldfnlncabaa
