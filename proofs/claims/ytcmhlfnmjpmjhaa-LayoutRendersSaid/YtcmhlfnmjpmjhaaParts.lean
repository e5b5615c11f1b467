/- The walks of the reference's Parts and of the laws' heavy. -/
import Derived.Test.YtcmhlfnmjpmjhaaMem
import Derived.Deep.LoopGhost
set_option linter.unnecessarySimpa false
set_option linter.deprecated false
namespace Go.Proofs.Ytcmhlfnmjpmjhaa
open Go.RowKit
set_option linter.unusedVariables false
set_option linter.unusedSimpArgs false

mutual
def parts : Dc → Int → Int
  | .mk _ t _ ks, most => partsL ks (1 + (t.size / 16 : Nat)) most
def partsL : List Dc → Int → Int → Int
  | [], n, _ => n
  | x :: xs, n, most => if n ≤ most then partsL xs (n + parts x (most - n)) most else n
end
mutual
/-- Each text is no longer than a string can be. -/
def small : Dc → Prop
  | .mk _ t _ ks => t.size ≤ 140737488351232 ∧ smallL ks
def smallL : List Dc → Prop
  | [] => True
  | x :: xs => small x ∧ smallL xs
end
mutual
theorem RDo.small {ok : Nat → Prop} {w : World} : ∀ {d : Dc} {v : Value}, RDo ok w d v → small d
  | .mk k t n ks, v, h => by
    rw [RDo] at h
    obtain ⟨a, c, e, h1, h2, h3, h4, h5⟩ := h
    rw [Go.Proofs.Ytcmhlfnmjpmjhaa.small]
    refine ⟨h2, ?_⟩
    cases ks with
    | nil => rw [smallL]; trivial
    | cons x xs =>
      obtain ⟨b, o, _, _, _, h6⟩ := h5 (by simp)
      exact RDos.small h6
theorem RDos.small {ok : Nat → Prop} {w : World} {b : Nat} : ∀ {ks : List Dc} {o : Nat}, RDos ok w b o ks → smallL ks
  | [], _, _ => by rw [smallL]; trivial
  | x :: xs, o, h => by
    rw [RDos] at h
    obtain ⟨⟨v0, v1, v2, v3, h0, h1, h2, h3, hx⟩, hr⟩ := h
    rw [smallL]
    exact ⟨RDo.small hx, RDos.small hr⟩
end
mutual
theorem parts_pos : ∀ (d : Dc) (most : Int), 1 ≤ parts d most
  | .mk k t n ks, most => by rw [parts]; exact partsL_pos ks _ _ (by omega)
theorem partsL_pos : ∀ (ks : List Dc) (n most : Int), 1 ≤ n → 1 ≤ partsL ks n most
  | [], n, most, h => by rw [partsL]; exact h
  | x :: xs, n, most, h => by
    rw [partsL]
    split
    · exact partsL_pos xs _ _ (by have := parts_pos x (most - n); omega)
    · exact h
end
mutual
theorem parts_le : ∀ (d : Dc) (most : Int), small d → 0 ≤ most → parts d most ≤ most + 8796093022209
  | .mk k t n ks, most, hs, h => by
    rw [small] at hs
    rw [parts]
    exact partsL_le ks _ _ hs.2 h (by omega)
theorem partsL_le : ∀ (ks : List Dc) (n most : Int), smallL ks → 0 ≤ most → n ≤ most + 8796093022209 → partsL ks n most ≤ most + 8796093022209
  | [], n, most, _, _, h => by rw [partsL]; exact h
  | x :: xs, n, most, hs, h0, h => by
    rw [smallL] at hs
    rw [partsL]
    split
    · exact partsL_le xs _ _ hs.2 h0 (by have := parts_le x (most - n) hs.1 (by omega); omega)
    · exact h
end
theorem smallL_get {ks : List Dc} (h : smallL ks) : ∀ (i : Nat) (hi : i < ks.length), small ks[i] := by
  induction ks with
  | nil => intro i hi; simp at hi
  | cons x xs ih =>
    intro i hi
    rw [smallL] at h
    cases i with
    | zero => exact h.1
    | succ i => simpa using ih h.2 i (by simpa using hi)
mutual
/-- What is not too great has few documents and bytes. -/
theorem parts_cnt : ∀ (d : Dc) (most : Int), parts d most ≤ most → 16 * (cnt d : Int) + (vol d : Int) ≤ 16 * parts d most + 15 * (cnt d : Int)
  | .mk k t n ks, most, h => by
    rw [parts] at h ⊢
    have h1 := partsL_cnt ks _ _ h
    rw [cnt, vol]
    have : ((t.size / 16 : Nat) : Int) * 16 + 15 ≥ (t.size : Int) := by omega
    omega
theorem partsL_cnt : ∀ (ks : List Dc) (n most : Int), partsL ks n most ≤ most → 16 * n + 16 * (cntL ks : Int) + (volL ks : Int) ≤ 16 * partsL ks n most + 15 * (cntL ks : Int)
  | [], n, most, h => by rw [partsL, cntL, volL]; omega
  | x :: xs, n, most, h => by
    rw [partsL] at h ⊢
    rw [cntL, volL]
    by_cases hn : n ≤ most
    · rw [if_pos hn] at h ⊢
      have h1 := partsL_cnt xs _ _ h
      have h3 : n + parts x (most - n) ≤ partsL xs (n + parts x (most - n)) most := partsL_ge xs _ _
      have h2 := parts_cnt x (most - n) (by omega)
      omega
    · rw [if_neg hn] at h
      omega
theorem partsL_ge : ∀ (ks : List Dc) (n most : Int), n ≤ partsL ks n most
  | [], n, most => by rw [partsL]; omega
  | x :: xs, n, most => by
    rw [partsL]
    split
    · have h1 := partsL_ge xs (n + parts x (most - n)) most
      have h2 := parts_pos x (most - n)
      omega
    · omega
end
mutual
theorem parts_c : ∀ (d : Dc) (most : Int), parts d most ≤ most → (cnt d : Int) ≤ parts d most
  | .mk k t n ks, most, h => by
    rw [parts] at h ⊢
    have h1 := partsL_c ks _ _ h
    rw [cnt]
    omega
theorem partsL_c : ∀ (ks : List Dc) (n most : Int), partsL ks n most ≤ most → n + (cntL ks : Int) ≤ partsL ks n most
  | [], n, most, h => by rw [partsL, cntL]; omega
  | x :: xs, n, most, h => by
    rw [partsL] at h ⊢
    rw [cntL]
    by_cases hn : n ≤ most
    · rw [if_pos hn] at h ⊢
      have h1 := partsL_c xs _ _ h
      have h3 : n + parts x (most - n) ≤ partsL xs (n + parts x (most - n)) most := partsL_ge xs _ _
      have h2 := parts_c x (most - n) (by omega)
      omega
    · rw [if_neg hn] at h
      omega
end

structure PartsRel (w : World) (A : Array Value) (res most : Int) (ks : List Dc) (k : Nat) (n : Int) (w2 : World) : Prop where
  below : Below w.heap.size w w2
  blk : Blk w2 w.heap.size A 24
  le : k ≤ ks.length
  eq : partsL (ks.drop k) n most = res
  lo : 1 ≤ n
  hi : n ≤ most + 8796093022209

set_option maxHeartbeats 2000000 in
set_option maxRecDepth 100000 in
theorem parts_any : ∀ (d : Dc) (most : Int), 0 ≤ most → most ≤ 1000000 → ∀ (v : Value) (w : World), RD w d v → Calls Try.prog 19 #[v, .int .i64 most] w fun e w' => e = .returned (.int .i64 (parts d most)) ∧ Below w.heap.size w w' := by
  refine Dc.induct fun kd tx nn ks ih => ?_
  intro most h0 h1 v w hT
  have hsm := hT.small
  rw [small] at hsm
  obtain ⟨a2, c2, rfl, _, htx, _, hks⟩ := hT.open
  simp only [Dc.kind, Dc.text, Dc.num, Dc.kids] at hks htx ⊢
  rw [parts]
  have hlen := hks.1
  have HK := hide hks
  have HI := hide ih
  have HM := hide hsm.2
  clear hks ih hT hsm
  generalize hC : partsL ks (1 + (tx.size / 16 : Nat)) most = C
  have HC := hide hC
  clear hC
  have hq : ((tx.size : Int).tdiv 16) = ((tx.size / 16 : Nat) : Int) := by rw [Int.tdiv_eq_ediv_of_nonneg (by omega)]; omega
  have hq2 : (1 : Int) + ((tx.size / 16 : Nat) : Int) ≤ 8796093022209 := by omega
  go_enter Try.func19, Try.ntmps19
  go_wp2_with fail
  go_loopg [5, 6] ks.length (fun u v5 v6 wr => ∃ (k : Nat) (n : Int), Hid (u = ks.length - k) ∧ v5 = .int .i64 n ∧ v6 = .int .i64 (k : Int) ∧ Hid (PartsRel w #[.int .i64 kd, .string tx, .int .i64 nn, .slice a2 ks.length c2] C most ks k n wr))
  case atStart =>
    exact ⟨0, _, rfl, rfl, rfl, hide ⟨(Below.refl _ _).alloc (Nat.le_refl _) _, Blk.new _ _ _, Nat.zero_le _, by rw [List.drop_zero]; exact HC.out, by omega, by omega⟩⟩
  case round =>
    obtain ⟨k, n, hn, rfl, rfl, hr⟩ := hrel
    have hk := hr.out.le
    have hlo := hr.out.lo
    have hhi := hr.out.hi
    have d3 := hr.out.blk.cell 3
    have hbk := hr.out.blk.lt
    by_cases hlt : k < ks.length
    · have hlti : (k : Int) < (ks.length : Int) := by omega
      have heq := hr.out.eq
      rw [List.drop_eq_getElem_cons hlt, partsL] at heq
      by_cases hnm : n ≤ most
      · rw [if_pos hnm] at heq
        obtain ⟨bk, ok, x3, k3, rfl, hbl, e0, e1, e2, e3, hx⟩ := HK.out.get k hlt
        have hbelow := hr.out.below
        have e0' := (hbelow.cell (p := ⟨bk, ok + k * 4, none⟩) hbl).trans e0
        have e1' := (hbelow.cell (p := ⟨bk, ok + k * 4 + 1, none⟩) hbl).trans e1
        have e2' := (hbelow.cell (p := ⟨bk, ok + k * 4 + 2, none⟩) hbl).trans e2
        have e3' := (hbelow.cell (p := ⟨bk, ok + k * 4 + 3, none⟩) hbl).trans e3
        have hbl' := Nat.lt_of_lt_of_le hbl hbelow.size
        have hpl := parts_le ks[k] (most - n) (smallL_get HM.out k hlt) (by omega)
        have hpp := parts_pos ks[k] (most - n)
        have HX := hide (HI.out ks[k] (List.getElem_mem hlt) (most - n) (by omega) (by omega) _ wr (RD.below hbelow hx))
        have HEQ := hide heq
        have HB := hide hbelow
        have hws := hbelow.size
        clear hx e0 e1 e2 e3 hbelow heq
        go_wp2_with fail
        refine HX.out.mono ?_
        rintro e w2 ⟨rfl, h2⟩
        have HB2 := hide (HB.out.trans (h2.mono hws))
        have HBK := hide (hr.out.blk.below h2)
        clear h2
        go_wp2_with fail
        go_roundg (ks.length - (k + 1))
        case measure => rw [hn.out]; omega
        case rel =>
          refine ⟨k + 1, n + parts ks[k] (most - n), rfl, rfl, ?_, hide ⟨HB2.out, HBK.out, hlt, HEQ.out, by omega, by omega⟩⟩
          congr 1
      · rw [if_neg hnm] at heq
        subst heq
        have hnm2 : decide (n ≤ most) = false := decide_eq_false hnm
        go_wp2_with fail
        go_ret
        exact ⟨rfl, hr.out.below⟩
    · have hlti : ¬ (k : Int) < (ks.length : Int) := by omega
      have heq := hr.out.eq
      rw [List.drop_eq_nil_of_le (by omega), partsL] at heq
      subst heq
      go_wp2_with fail
      go_ret
      exact ⟨rfl, hr.out.below⟩

/-- Is a document too great? -/
def heavyB (d : Dc) : Bool := decide (700 < parts d 700)
theorem of_heavy {d : Dc} (h : heavyB d = false) : cnt d ≤ 700 ∧ vol d ≤ 11200 := by
  unfold heavyB at h
  have h1 := of_decide_eq_false h
  have h2 := parts_cnt d 700 (by omega)
  have h3 := parts_c d 700 (by omega)
  omega

set_option maxHeartbeats 2000000 in
theorem heavy_any (d : Dc) (v : Value) (w : World) (hT : RD w d v) : Calls Try.prog 9 #[v] w fun e w' => e = .returned (.bool (heavyB d)) ∧ Below w.heap.size w w' := by
  have hP := fun W h => parts_any d 700 (by decide) (by decide) v W h
  obtain ⟨a2, c2, rfl, _, _, _, _⟩ := hT.open
  have HT := hide hT
  have HP := hide hP
  clear hP hT
  unfold heavyB
  go_enter Try.func9, Try.ntmps9
  go_wp2_with fail
  refine (HP.out _ (RD.below ((Below.refl _ _).alloc (Nat.le_refl _) _) HT.out)).mono ?_
  rintro e w1 ⟨rfl, h1⟩
  have HB := hide (below_next ((Below.refl _ _).alloc (Nat.le_refl _) _) h1)
  clear h1
  go_wp2_with fail
  go_ret
  exact ⟨rfl, HB.out⟩
end Go.Proofs.Ytcmhlfnmjpmjhaa
