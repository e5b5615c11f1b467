/- The walk of the reference's well and Right: the same as the program's. -/
import Derived.Test.YtfndldfnlncabaaRName
import Derived.Test.YtfndldfnlncabaaRSize
import Derived.Test.YtfndldfnlncabaaRight
import Derived.Deep.QuietTactic
import Derived.Deep.Cut
import Derived.Deep.DeepCutAuto
set_option linter.unusedVariables false
set_option linter.unusedSimpArgs false
set_option linter.unnecessarySimpa false
set_option linter.deprecated false
namespace Go.Proofs.Ytfndldfnlncabaa
open Go.RowKit

mutual
/-- Is a term right, but for its depth? -/
def wellB : Tm → Bool
  | .mk k c t ks => okB k c.data.toList t ks.length && wellL ks
def wellL : List Tm → Bool
  | [] => true
  | x :: xs => wellB x && wellL xs
end
mutual
theorem rightB_well : ∀ (T : Tm) (n : Nat), rightB n T = (decide (dep T ≤ n) && wellB T)
  | .mk k c t ks, 0 => by
    have : ¬ (dep (.mk k c t ks) ≤ 0) := by rw [dep]; omega
    rw [rightB, decide_eq_false this, Bool.false_and]
  | .mk k c t ks, n + 1 => by
    rw [rightB, wellB, dep, rightL_well ks n]
    have : decide (depL ks + 1 ≤ n + 1) = decide (depL ks ≤ n) := by rw [Bool.eq_iff_iff]; simp
    rw [this]
    cases okB k c.data.toList t ks.length <;> cases decide (depL ks ≤ n) <;> simp
theorem rightL_well : ∀ (ks : List Tm) (n : Nat), ks.all (rightB n) = (decide (depL ks ≤ n) && wellL ks)
  | [], n => by simp [depL, wellL]
  | x :: xs, n => by
    rw [List.all_cons, rightB_well x n, rightL_well xs n, depL, wellL]
    have : decide (max (dep x) (depL xs) ≤ n) = (decide (dep x ≤ n) && decide (depL xs ≤ n)) := by
      rw [Bool.eq_iff_iff]; simp; omega
    rw [this]
    cases decide (dep x ≤ n) <;> cases decide (depL xs ≤ n) <;> cases wellB x <;> simp
end

def WellOk (T : Tm) : Prop := ∀ (v : Value) (w : World), RT w T v → Calls Try.prog 48 #[v] w fun e w' => e = .returned (.bool (wellB T)) ∧ Below w.heap.size w w'

theorem well_ok (kd : Int) (cs : ByteArray) (tx : List UInt8) (n1 n2 : Nat) (ec ex nm : Bool) (h2 : tx.length = n2) (hec : cs.toList.isEmpty = ec) (hex : ((n2 : Int) == 0) = ex) (hnm : isNameL cs.data.toList = nm) :
    okB kd cs.data.toList tx n1 = (if kd = 1 then nm && ex else if kd = 2 then ec && decide (n1 = 0) else if kd = 3 then ec && ex else if kd = 4 then ec && ex && decide (n1 = 0) else if kd = 5 then ec && ex && decide (n1 = 1) else false) := by
  rw [ByteArray.toList_eq] at hec
  have ht : tx.isEmpty = ex := by
    rw [← hex, ← h2, Bool.eq_iff_iff]
    simp
  unfold okB
  rw [hec, hnm, ht]
theorem drewN_below {B : Nat} {a w : World} (n : Nat) (h : Below B a w) : Below B a (w.drewN n) := ⟨h.os, h.tape, h.output, h.size, h.block⟩

structure WellRel (w : World) (res : Bool) (A : Array Value) (ks : List Tm) (k : Nat) (w2 : World) : Prop where
  below : Below w.heap.size w w2
  box : Blk w2 w.heap.size A 25
  le : k ≤ ks.length
  eq : wellL (ks.drop k) = res

set_option maxHeartbeats 2000000 in
set_option maxRecDepth 100000 in
theorem rwell_any : ∀ T, WellOk T := by
  refine Tm.induct fun kd cs tx ks ih => ?_
  intro v w hT
  obtain ⟨a1, c1, a2, c2, rfl, _, hcs, _, hks⟩ := hT.open
  simp only [Tm.kind, Tm.cons, Tm.text, Tm.kids] at hks hcs ⊢
  rw [wellB]
  have hlen := hks.1
  have HK := hide hks
  have HI := hide ih
  clear hks ih hT
  obtain ⟨res, hres⟩ : ∃ res, wellL ks = res := ⟨_, rfl⟩
  rw [hres]
  obtain ⟨n1, hn1⟩ : ∃ n, ks.length = n := ⟨_, rfl⟩
  obtain ⟨n2, hn2⟩ : ∃ n, tx.length = n := ⟨_, rfl⟩
  have HN1 := hide hn1
  have HN2 := hide hn2
  rw [hn1] at hlen ⊢
  rw [hn2]
  have HRES := hide hres
  clear hres hn1 hn2
  go_enter Try.func48, Try.ntmps48
  go_wp2_with fail
  go_loopg [3] n1 (fun n v3 wr => ∃ k : Nat, Hid (n = n1 - k) ∧ v3 = .int .i64 (k : Int) ∧ Hid (WellRel w res #[.int .i64 kd, .string cs, .slice a1 n2 c1, .slice a2 n1 c2] ks k wr))
  case atStart =>
    exact ⟨0, rfl, rfl, hide ⟨(Below.refl _ _).alloc (Nat.le_refl _) _, Blk.new _ _ _, Nat.zero_le _, HRES.out⟩⟩
  case round =>
    obtain ⟨k, hn, rfl, hr⟩ := hrel
    have hk := hr.out.le
    have p3 := hr.out.box.cell 3
    have pl := hr.out.box.lt
    by_cases hlt : k < n1
    · have hk2 : k < ks.length := by have := HN1.out; omega
      obtain ⟨bk, ok, x1, k1, x3, k3, rfl, hbl, e0, e1, e2, e3, hx⟩ := HK.out.get k hk2
      have hbelow := hr.out.below
      have e0' := (hbelow.cell (p := ⟨bk, ok + k * 4, none⟩) hbl).trans e0
      have e1' := (hbelow.cell (p := ⟨bk, ok + k * 4 + 1, none⟩) hbl).trans e1
      have e2' := (hbelow.cell (p := ⟨bk, ok + k * 4 + 2, none⟩) hbl).trans e2
      have e3' := (hbelow.cell (p := ⟨bk, ok + k * 4 + 3, none⟩) hbl).trans e3
      have hbl' := Nat.lt_of_lt_of_le hbl hbelow.size
      have heq := hr.out.eq
      rw [List.drop_eq_getElem_cons hk2, wellL] at heq
      have HX := hide (HI.out ks[k] (List.getElem_mem hk2) _ wr (RT.below hbelow hx))
      have hlti : (k : Int) < (n1 : Int) := by omega
      have HB := hide hbelow
      have hws := hbelow.size
      have HEQ := hide heq
      clear hx e0 e1 e2 e3 hbelow heq
      go_wp2_with fail
      refine HX.out.mono ?_
      rintro e w2 ⟨rfl, h2⟩
      have HB2 := hide (HB.out.trans (h2.mono hws))
      have HA2 := hide (hr.out.box.below h2)
      clear h2
      cases hs : wellB ks[k] with
      | true =>
        have HQ := hide (show wellL (ks.drop (k + 1)) = res from by have h := HEQ.out; rw [hs, Bool.true_and] at h; exact h)
        clear hs
        go_wp2_with fail
        go_roundg (n1 - (k + 1))
        case measure => rw [hn.out]; omega
        case rel => exact ⟨k + 1, rfl, rfl, hide ⟨HB2.out, HA2.out, by omega, HQ.out⟩⟩
      | false =>
        have HQ := hide (show false = res from by have h := HEQ.out; rw [hs, Bool.false_and] at h; exact h)
        clear hs
        go_wp2_with fail
        go_ret
        exact ⟨by have h := HQ.out; subst h; simp, HB2.out⟩
    · have hlti : ¬ (k : Int) < (n1 : Int) := by omega
      have heq := hr.out.eq
      rw [List.drop_eq_nil_of_le (by have := HN1.out; omega), wellL] at heq
      subst heq
      have p0 := hr.out.box.cell 0
      have p1 := hr.out.box.cell 1
      have p2 := hr.out.box.cell 2
      have HB := hide hr.out.below
      obtain ⟨ec, hec⟩ : ∃ b, cs.toList.isEmpty = b := ⟨_, rfl⟩
      obtain ⟨ex, hex⟩ : ∃ b, ((n2 : Int) == 0) = b := ⟨_, rfl⟩
      obtain ⟨nm, hnm⟩ : ∃ b, isNameL cs.data.toList = b := ⟨_, rfl⟩
      have HNM := hide (fun W => risName_any cs W hcs)
      rw [hnm] at HNM
      have HOK := hide (well_ok kd cs tx n1 n2 ec ex nm HN2.out hec hex hnm)
      clear hnm hcs
      have HB2 := hide (fun nq => (drewN_below nq HB.out : Below w.heap.size w (wr.drewN nq)))
      go_upto_region 6 with fail
      go_quiet (fail)
      clear hec hex p2 p3 HK HI HRES HN1 HN2
      by_cases k1 : kd = 1
      · subst k1
        cases ex
        all_goals
          go_wp2_with (go_at_call 64; refine (HNM.out _).mono ?_; rintro e w' ⟨rfl, rfl⟩)
          go_ret
          exact ⟨ret_bool (by rw [HOK.out]; simp), HB2.out _⟩
      by_cases k2 : kd = 2
      · subst k2
        by_cases hz : n1 = 0
        · subst hz
          cases ec
          all_goals
            go_wp2_with fail
            go_ret
            exact ⟨ret_bool (by rw [HOK.out]; simp), HB2.out _⟩
        · have hzi : ((n1 : Int) == 0) = false := by simpa using hz
          cases ec
          all_goals
            go_wp2_with fail
            go_ret
            exact ⟨ret_bool (by rw [HOK.out]; simp [hz]), HB2.out _⟩
      by_cases k3 : kd = 3
      · subst k3
        cases ec
        all_goals cases ex
        all_goals
          go_wp2_with fail
          go_ret
          exact ⟨ret_bool (by rw [HOK.out]; simp), HB2.out _⟩
      by_cases k4 : kd = 4
      · subst k4
        by_cases hz : n1 = 0
        · subst hz
          cases ec
          all_goals cases ex
          all_goals
            go_wp2_with fail
            go_ret
            exact ⟨ret_bool (by rw [HOK.out]; simp), HB2.out _⟩
        · have hzi : ((n1 : Int) == 0) = false := by simpa using hz
          cases ec
          all_goals cases ex
          all_goals
            go_wp2_with fail
            go_ret
            exact ⟨ret_bool (by rw [HOK.out]; simp [hz]), HB2.out _⟩
      by_cases k5 : kd = 5
      · subst k5
        by_cases hz : n1 = 1
        · subst hz
          cases ec
          all_goals cases ex
          all_goals
            go_wp2_with fail
            go_ret
            exact ⟨ret_bool (by rw [HOK.out]; simp), HB2.out _⟩
        · have hzi : ((n1 : Int) == 1) = false := by rw [beq_eq_false_iff_ne]; omega
          cases ec
          all_goals cases ex
          all_goals
            go_wp2_with fail
            go_ret
            exact ⟨ret_bool (by rw [HOK.out]; simp [hz]), HB2.out _⟩
      have k1' : (kd == 1) = false := by simpa using k1
      have k2' : (kd == 2) = false := by simpa using k2
      have k3' : (kd == 3) = false := by simpa using k3
      have k4' : (kd == 4) = false := by simpa using k4
      have k5' : (kd == 5) = false := by simpa using k5
      go_wp2_with fail
      go_ret
      exact ⟨ret_bool (by rw [HOK.out]; simp [k1, k2, k3, k4, k5]), HB2.out _⟩

set_option maxHeartbeats 1000000 in
theorem rright_any (T : Tm) (hc : cnt T ≤ 4611686018427387904) (v : Value) (w : World) (hT : RT w T v) :
    Calls Try.prog 33 #[v] w fun e w' => e = .returned (.bool (rightB 200 T)) ∧ Below w.heap.size w w' := by
  obtain ⟨a1, c1, a2, c2, rfl, _, _, _, _⟩ := hT.open
  have HT := hide (fun W (h : Below w.heap.size w W) => RT.below h hT)
  have HS := hide (fun v W h => rsize_any T hc v W h)
  have HW := hide (fun v W h => rwell_any T v W h)
  have hrw := rightB_well T 200
  have h0 := hide ((Below.refl _ w).alloc (Nat.le_refl _) (.cells #[.int .i64 T.kind, .string T.cons, .slice a1 T.text.length c1, .slice a2 T.kids.length c2] 25))
  have hB := hide (Blk.new w #[.int .i64 T.kind, .string T.cons, .slice a1 T.text.length c1, .slice a2 T.kids.length c2] 25)
  clear hT
  by_cases hd : dep T ≤ 200
  · have hdi : (dep T : Int) ≤ 200 := by omega
    rw [decide_eq_true hd, Bool.true_and] at hrw
    rw [hrw]
    clear hrw hd
    go_enter Try.func33, Try.ntmps33
    go_wp2_with fail
    refine (HS.out _ _ (HT.out _ h0.out)).mono ?_
    rintro e w1 ⟨rfl, hb⟩
    have HB1 := hide (h0.out.trans (hb.mono h0.out.size))
    have q := hB.out.below hb
    have e0 := q.cell 0
    have e1 := q.cell 1
    have e2 := q.cell 2
    have e3 := q.cell 3
    clear hb q
    go_wp2_with fail
    refine (HW.out _ _ (HT.out _ HB1.out)).mono ?_
    rintro e w2 ⟨rfl, hb⟩
    have HB2 := hide (HB1.out.trans (hb.mono HB1.out.size))
    clear hb e0 e1 e2 e3
    go_wp2_with fail
    go_ret
    exact ⟨rfl, HB2.out⟩
  · have hdi : ¬ (dep T : Int) ≤ 200 := by omega
    rw [decide_eq_false hd, Bool.false_and] at hrw
    rw [hrw]
    clear hrw hd
    go_enter Try.func33, Try.ntmps33
    go_wp2_with fail
    refine (HS.out _ _ (HT.out _ h0.out)).mono ?_
    rintro e w1 ⟨rfl, hb⟩
    have HB1 := hide (h0.out.trans (hb.mono h0.out.size))
    clear hb
    go_wp2_with fail
    go_ret
    exact ⟨rfl, HB1.out⟩
end Go.Proofs.Ytfndldfnlncabaa
