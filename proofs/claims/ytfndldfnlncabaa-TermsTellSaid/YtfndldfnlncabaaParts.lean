/- The walks of the reference's Parts and of the laws' heavy. -/
import Derived.Test.YtfndldfnlncabaaPlain
import Derived.Test.YtfndldfnlncabaaMem
import Derived.Deep.LoopGhost
set_option linter.unnecessarySimpa false
set_option linter.deprecated false
namespace Go.Proofs.Ytfndldfnlncabaa
open Go.RowKit
set_option linter.unusedVariables false
set_option linter.unusedSimpArgs false

mutual
/-- Each text is no longer than a slice can be. -/
def small : Tm → Prop
  | .mk _ _ t ks => t.length ≤ 140737488351232 ∧ smallL ks
def smallL : List Tm → Prop
  | [] => True
  | x :: xs => small x ∧ smallL xs
end
mutual
theorem RTo.small {ok : Nat → Prop} {w : World} : ∀ {T : Tm} {v : Value}, RTo ok w T v → small T
  | .mk k c t ks, v, h => by
    rw [RTo] at h
    obtain ⟨a1, c1, a2, c2, e, hr, hc, hb, hl, hks⟩ := h
    rw [Go.Proofs.Ytfndldfnlncabaa.small]
    refine ⟨hb.1, ?_⟩
    cases ks with
    | nil => rw [smallL]; trivial
    | cons x xs =>
      obtain ⟨b, o, _, _, _, h2⟩ := hks (by simp)
      exact RTos.small h2
theorem RTos.small {ok : Nat → Prop} {w : World} {b : Nat} : ∀ {ks : List Tm} {o : Nat}, RTos ok w b o ks → smallL ks
  | [], _, _ => by rw [smallL]; trivial
  | x :: xs, o, h => by
    rw [RTos] at h
    obtain ⟨⟨v0, v1, v2, v3, h0, h1, h2, h3, hx⟩, hr⟩ := h
    rw [smallL]
    exact ⟨RTo.small hx, RTos.small hr⟩
end
mutual
theorem parts_pos : ∀ (T : Tm) (most : Int), 1 ≤ parts T most
  | .mk k c t ks, most => by rw [parts]; exact partsL_pos ks _ _ (by omega)
theorem partsL_pos : ∀ (ks : List Tm) (n most : Int), 1 ≤ n → 1 ≤ partsL ks n most
  | [], n, most, h => by rw [partsL]; exact h
  | x :: xs, n, most, h => by
    rw [partsL]
    split
    · exact partsL_pos xs _ _ (by have := parts_pos x (most - n); omega)
    · exact h
end
mutual
theorem parts_le : ∀ (T : Tm) (most : Int), small T → 0 ≤ most → parts T most ≤ most + 2199023255489
  | .mk k c t ks, most, hs, h => by
    rw [small] at hs
    rw [parts]
    exact partsL_le ks _ _ hs.2 h (by omega)
theorem partsL_le : ∀ (ks : List Tm) (n most : Int), smallL ks → 0 ≤ most → n ≤ most + 2199023255489 → partsL ks n most ≤ most + 2199023255489
  | [], n, most, _, _, h => by rw [partsL]; exact h
  | x :: xs, n, most, hs, h0, h => by
    rw [smallL] at hs
    rw [partsL]
    split
    · exact partsL_le xs _ _ hs.2 h0 (by have := parts_le x (most - n) hs.1 (by omega); omega)
    · exact h
end
theorem smallL_get {ks : List Tm} (h : smallL ks) : ∀ (i : Nat) (hi : i < ks.length), small ks[i] := by
  induction ks with
  | nil => intro i hi; simp at hi
  | cons x xs ih =>
    intro i hi
    rw [smallL] at h
    cases i with
    | zero => exact h.1
    | succ i => simpa using ih h.2 i (by simpa using hi)

structure PartsRel (w : World) (a1 : Option Addr) (m1 c1 : Nat) (a2 : Option Addr) (c2 : Nat) (kd : Int) (cs : ByteArray) (res most : Int) (ks : List Tm) (k : Nat) (n : Int) (w2 : World) : Prop where
  below : Below w.heap.size w w2
  blk : Blk w2 w.heap.size #[.int .i64 kd, .string cs, .slice a1 m1 c1, .slice a2 ks.length c2] 25
  le : k ≤ ks.length
  eq : partsL (ks.drop k) n most = res
  lo : 1 ≤ n
  hi : n ≤ most + 2199023255489

set_option maxHeartbeats 2000000 in
set_option maxRecDepth 100000 in
theorem parts_any : ∀ (T : Tm) (most : Int), 0 ≤ most → most ≤ 1000000 → ∀ (v : Value) (w : World), RT w T v → Calls Try.prog 34 #[v, .int .i64 most] w fun e w' => e = .returned (.int .i64 (parts T most)) ∧ Below w.heap.size w w' := by
  refine Tm.induct fun kd cs tx ks ih => ?_
  intro most h0 h1 v w hT
  have hsm := hT.small
  rw [small] at hsm
  obtain ⟨a1, c1, a2, c2, rfl, _, _, _, hks⟩ := hT.open
  simp only [Tm.kind, Tm.cons, Tm.text, Tm.kids] at hks ⊢
  rw [parts]
  have hlen := hks.1
  have hltx := hsm.1
  have HK := hide hks
  have HI := hide ih
  have HM := hide hsm.2
  clear hks ih hT hsm
  generalize hC : partsL ks (1 + (tx.length / 64 : Nat)) most = C
  have HC := hide hC
  clear hC
  generalize hml : tx.length = m1 at *
  clear hml
  have hq : ((m1 : Int).tdiv 64) = ((m1 / 64 : Nat) : Int) := by rw [Int.tdiv_eq_ediv_of_nonneg (by omega)]; omega
  have hq2 : (1 : Int) + ((m1 / 64 : Nat) : Int) ≤ 2199023255489 := by omega
  go_enter Try.func34, Try.ntmps34
  go_wp2_with fail
  go_loopg [5, 6] ks.length (fun u v5 v6 wr => ∃ (k : Nat) (n : Int), Hid (u = ks.length - k) ∧ v5 = .int .i64 n ∧ v6 = .int .i64 (k : Int) ∧ Hid (PartsRel w a1 m1 c1 a2 c2 kd cs C most ks k n wr))
  case atStart =>
    exact ⟨0, _, rfl, rfl, rfl, hide ⟨(Below.refl _ _).alloc (Nat.le_refl _) _, Blk.new _ _ _, Nat.zero_le _, by rw [List.drop_zero]; exact HC.out, by omega, by omega⟩⟩
  case round =>
    obtain ⟨k, n, hn, rfl, rfl, hr⟩ := hrel
    have hk := hr.out.le
    have hlo := hr.out.lo
    have hhi := hr.out.hi
    have d3 := hr.out.blk.cell 3
    have hbk := hr.out.blk.lt
    by_cases hlt : k < ks.length
    · have hlti : (k : Int) < (ks.length : Int) := by omega
      have heq := hr.out.eq
      rw [List.drop_eq_getElem_cons hlt, partsL] at heq
      by_cases hnm : n ≤ most
      · rw [if_pos hnm] at heq
        obtain ⟨bk, ok, x1, k1, x3, k3, rfl, hbl, e0, e1, e2, e3, hx⟩ := HK.out.get k hlt
        have hbelow := hr.out.below
        have e0' := (hbelow.cell (p := ⟨bk, ok + k * 4, none⟩) hbl).trans e0
        have e1' := (hbelow.cell (p := ⟨bk, ok + k * 4 + 1, none⟩) hbl).trans e1
        have e2' := (hbelow.cell (p := ⟨bk, ok + k * 4 + 2, none⟩) hbl).trans e2
        have e3' := (hbelow.cell (p := ⟨bk, ok + k * 4 + 3, none⟩) hbl).trans e3
        have hbl' := Nat.lt_of_lt_of_le hbl hbelow.size
        have hpl := parts_le ks[k] (most - n) (smallL_get HM.out k hlt) (by omega)
        have hpp := parts_pos ks[k] (most - n)
        have HX := hide (HI.out ks[k] (List.getElem_mem hlt) (most - n) (by omega) (by omega) _ wr (RT.below hbelow hx))
        have HEQ := hide heq
        have HB := hide hbelow
        have hws := hbelow.size
        clear hx e0 e1 e2 e3 hbelow heq
        go_wp2_with fail
        refine HX.out.mono ?_
        rintro e w2 ⟨rfl, h2⟩
        have HB2 := hide (HB.out.trans (h2.mono hws))
        have HBK := hide (hr.out.blk.below h2)
        clear h2
        go_wp2_with fail
        go_roundg (ks.length - (k + 1))
        case measure => rw [hn.out]; omega
        case rel =>
          refine ⟨k + 1, n + parts ks[k] (most - n), rfl, rfl, ?_, hide ⟨HB2.out, HBK.out, hlt, HEQ.out, by omega, by omega⟩⟩
          congr 1
      · rw [if_neg hnm] at heq
        subst heq
        have hnm2 : decide (n ≤ most) = false := decide_eq_false hnm
        go_wp2_with fail
        go_ret
        exact ⟨rfl, hr.out.below⟩
    · have hlti : ¬ (k : Int) < (ks.length : Int) := by omega
      have heq := hr.out.eq
      rw [List.drop_eq_nil_of_le (by omega), partsL] at heq
      subst heq
      go_wp2_with fail
      go_ret
      exact ⟨rfl, hr.out.below⟩

/-- Is a term too great? -/
def heavyB (T : Tm) : Bool := decide (1000 < parts T 1000)

set_option maxHeartbeats 2000000 in
theorem heavy_any (T : Tm) (v : Value) (w : World) (hT : RT w T v) : Calls Try.prog 12 #[v] w fun e w' => e = .returned (.bool (heavyB T)) ∧ Below w.heap.size w w' := by
  have hP := fun W h => parts_any T 1000 (by decide) (by decide) v W h
  obtain ⟨a1, c1, a2, c2, rfl, _, _, _, _⟩ := hT.open
  have HT := hide hT
  have HP := hide hP
  clear hP hT
  unfold heavyB
  go_enter Try.func12, Try.ntmps12
  go_wp2_with fail
  refine (HP.out _ (RT.below ((Below.refl _ _).alloc (Nat.le_refl _) _) HT.out)).mono ?_
  rintro e w1 ⟨rfl, h1⟩
  have HB := hide (below_next ((Below.refl _ _).alloc (Nat.le_refl _) _) h1)
  clear h1
  go_wp2_with fail
  go_ret
  exact ⟨rfl, HB.out⟩
end Go.Proofs.Ytfndldfnlncabaa
