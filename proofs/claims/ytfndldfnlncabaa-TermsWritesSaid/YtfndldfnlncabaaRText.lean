/- The walk of the reference's text of a term. -/
import Derived.Test.YtfndldfnlncabaaRQuote
import Derived.Test.YtfndldfnlncabaaRWell
import Derived.Test.YtfndldfnlncabaaSpell
set_option linter.unusedVariables false
set_option linter.unusedSimpArgs false
set_option linter.unnecessarySimpa false
set_option linter.deprecated false
namespace Go.Proofs.Ytfndldfnlncabaa
open Go.RowKit

theorem txtM_append (a b : List Tm) : txtM (a ++ b) = txtM a ++ txtM b := by
  induction a with
  | nil => simp [txtM]
  | cons x xs ih => rw [List.cons_append, txtM, txtM, ih]; simp
theorem txtL_next (ks : List Tm) (k : Nat) (h : k < ks.length) (h0 : 0 < k) : txtL (ks.take (k + 1)) = txtL (ks.take k) ++ [44] ++ txt ks[k] := by
  rw [List.take_succ_eq_append_getElem h]
  cases hk : ks.take k with
  | nil =>
    have := congrArg List.length hk
    rw [List.length_take, List.length_nil] at this
    omega
  | cons x xs =>
    rw [List.cons_append, txtL, txtL, txtM_append]
    simp [txtM]
theorem txtL_one (ks : List Tm) (h : 0 < ks.length) : txtL (ks.take 1) = txt ks[0] := by
  rw [List.take_succ_eq_append_getElem h]
  simp [txtL, txtM]
mutual
theorem txt_len : ∀ (T : Tm), (txt T).length ≤ vol T
  | .mk k c t ks => by
    have hq : (quoteL t).length ≤ 4 * t.length + 2 := by
      have := qBytes_len t
      simp [quoteL]
      omega
    have hc : c.data.toList.length = c.size := by simp
    have h1 := txtL_vol ks
    have h5 := txtH_vol ks
    rw [txt, vol]
    repeat' split
    all_goals ((try simp only [List.length_append, List.length_cons, List.length_nil]); omega)
theorem txtL_vol : ∀ (ks : List Tm), (txtL ks).length ≤ volL ks
  | [] => by simp [txtL]
  | x :: xs => by
    have := txt_len x
    have := txtM_vol xs
    rw [txtL, volL, List.length_append]; omega
theorem txtM_vol : ∀ (ks : List Tm), (txtM ks).length ≤ volL ks
  | [] => by simp [txtM]
  | x :: xs => by
    have := txt_len x
    have := txtM_vol xs
    rw [txtM, volL, List.length_cons, List.length_append]; omega
theorem txtH_vol : ∀ (ks : List Tm), (txtH ks).length ≤ volL ks
  | [] => by simp [txtH]
  | x :: xs => by
    have := txt_len x
    rw [txtH, volL]; omega
end
theorem volL_take : ∀ (ks : List Tm) (k : Nat), volL (ks.take k) ≤ volL ks
  | [], k => by simp
  | x :: xs, 0 => by simp [volL]
  | x :: xs, k + 1 => by rw [List.take_succ_cons, volL, volL]; have := volL_take xs k; omega
theorem volL_mem {x : Tm} : ∀ {ks : List Tm}, x ∈ ks → vol x ≤ volL ks
  | y :: ys, h => by
    rw [volL]
    rcases List.mem_cons.1 h with rfl | h
    · omega
    · have := volL_mem h; omega
theorem wellL_mem {x : Tm} : ∀ {ks : List Tm}, wellL ks = true → x ∈ ks → wellB x = true
  | y :: ys, h, hx => by
    rw [wellL, Bool.and_eq_true] at h
    rcases List.mem_cons.1 hx with rfl | hx
    · exact h.1
    · exact wellL_mem h.2 hx

theorem bapp (a b : List UInt8) : (⟨a.toArray⟩ : ByteArray) ++ ⟨b.toArray⟩ = ⟨(a ++ b).toArray⟩ := by
  apply ByteArray.ext
  simp
theorem bapp4 (cs : ByteArray) (out : List UInt8) : cs ++ (⟨#[40]⟩ : ByteArray) ++ ⟨out.toArray⟩ ++ ⟨#[41]⟩ = ⟨(cs.data.toList ++ (40 :: (out ++ [41]))).toArray⟩ := by
  have e : cs = ⟨cs.data.toList.toArray⟩ := by simp
  have h1 : cs ++ (⟨#[40]⟩ : ByteArray) = ⟨(cs.data.toList ++ [40]).toArray⟩ := by
    have h := bapp cs.data.toList [40]
    rw [← e] at h
    exact h
  rw [h1, bapp]
  refine (bapp _ [41]).trans ?_
  simp
theorem txt_kinds (kd : Int) (cs : ByteArray) (tx : List UInt8) (ks : List Tm) (n : Nat) (hn : ks.length = n) (h : okB kd cs.data.toList tx ks.length = true) :
    (kd = 1 ∧ n = 0 ∧ txt (.mk kd cs tx ks) = cs.data.toList) ∨ (kd = 1 ∧ n ≠ 0 ∧ txt (.mk kd cs tx ks) = cs.data.toList ++ (40 :: (txtL ks ++ [41]))) ∨ (kd = 2 ∧ txt (.mk kd cs tx ks) = quoteL tx) ∨
    (kd = 3 ∧ txt (.mk kd cs tx ks) = 91 :: (txtL ks ++ [93])) ∨ (kd = 4 ∧ txt (.mk kd cs tx ks) = [45]) ∨ (kd = 5 ∧ txt (.mk kd cs tx ks) = 63 :: txtL ks) := by
  subst hn
  unfold okB at h
  rw [txt]
  by_cases k1 : kd = 1
  · by_cases h0 : ks.length = 0
    · exact Or.inl ⟨k1, h0, by rw [if_pos k1, if_pos h0]⟩
    · exact Or.inr (Or.inl ⟨k1, h0, by rw [if_pos k1, if_neg h0]⟩)
  rw [if_neg k1] at h ⊢
  by_cases k2 : kd = 2
  · exact Or.inr (Or.inr (Or.inl ⟨k2, by rw [if_pos k2]⟩))
  rw [if_neg k2] at h ⊢
  by_cases k3 : kd = 3
  · exact Or.inr (Or.inr (Or.inr (Or.inl ⟨k3, by rw [if_pos k3]⟩)))
  rw [if_neg k3] at h ⊢
  by_cases k4 : kd = 4
  · exact Or.inr (Or.inr (Or.inr (Or.inr (Or.inl ⟨k4, by rw [if_pos k4]⟩))))
  rw [if_neg k4] at h ⊢
  by_cases k5 : kd = 5
  · rw [if_pos k5] at h ⊢
    rw [Bool.and_eq_true, decide_eq_true_eq] at h
    refine Or.inr (Or.inr (Or.inr (Or.inr (Or.inr ⟨k5, ?_⟩))))
    match ks, h.2 with
    | [x], _ => simp [txtH, txtL, txtM]
  rw [if_neg k5] at h
  cases h

def TextOk (T : Tm) : Prop := wellB T = true → vol T ≤ 1000000000 → ∀ (v : Value) (w : World), RT w T v → Calls Try.prog 38 #[v] w fun e w' => e = .returned (.string ⟨(txt T).toArray⟩) ∧ Below w.heap.size w w'

structure TextRel (w : World) (A : Array Value) (w2 : World) : Prop where
  below : Below w.heap.size w w2
  box : Blk w2 w.heap.size A 25

set_option maxHeartbeats 2000000 in
set_option maxRecDepth 100000 in
theorem rtext_any : ∀ T, TextOk T := by
  refine Tm.induct fun kd cs tx ks ih => ?_
  intro hwell hvol v w hT
  obtain ⟨a1, c1, a2, c2, rfl, _, hcs, htx, hks⟩ := hT.open
  simp only [Tm.kind, Tm.cons, Tm.text, Tm.kids] at hks hcs htx ⊢
  rw [wellB, Bool.and_eq_true] at hwell
  have hlen := hks.1
  rw [vol] at hvol
  have HK := hide hks
  have HI := hide ih
  have HT := hide htx
  have HWL := hide hwell.2
  have HOK := hide hwell.1
  have HV := hide hvol
  clear hks ih hT htx hwell
  obtain ⟨n1, hn1⟩ : ∃ n, ks.length = n := ⟨_, rfl⟩
  obtain ⟨n2, hn2⟩ : ∃ n, tx.length = n := ⟨_, rfl⟩
  have HN1 := hide hn1
  have HN2 := hide hn2
  rw [hn1] at hlen ⊢
  rw [hn2]
  clear hn1 hn2 hvol
  go_enter Try.func38, Try.ntmps38
  go_wp2_with fail
  go_loopg [3, 4] n1 (fun n v3 v4 wr => ∃ k : Nat, Hid (n = n1 - k) ∧ Hid (k ≤ n1) ∧ v4 = .int .i64 (k : Int) ∧ v3 = .string ⟨(txtL (ks.take k)).toArray⟩ ∧ Hid (TextRel w #[.int .i64 kd, .string cs, .slice a1 n2 c1, .slice a2 n1 c2] wr))
  case atStart =>
    exact ⟨0, rfl, Nat.zero_le _, rfl, rfl, hide ⟨(Below.refl _ _).alloc (Nat.le_refl _) _, Blk.new _ _ _⟩⟩
  case round =>
    obtain ⟨k, hn, hk, rfl, rfl, hr⟩ := hrel
    have p3 := hr.out.box.cell 3
    have pl := hr.out.box.lt
    by_cases hlt : k < n1
    · have hk2 : k < ks.length := by have := HN1.out; omega
      obtain ⟨bk, ok, x1, k1, x3, k3, rfl, hbl, e0, e1, e2, e3, hx⟩ := HK.out.get k hk2
      have hbelow := hr.out.below
      have e0' := (hbelow.cell (p := ⟨bk, ok + k * 4, none⟩) hbl).trans e0
      have e1' := (hbelow.cell (p := ⟨bk, ok + k * 4 + 1, none⟩) hbl).trans e1
      have e2' := (hbelow.cell (p := ⟨bk, ok + k * 4 + 2, none⟩) hbl).trans e2
      have e3' := (hbelow.cell (p := ⟨bk, ok + k * 4 + 3, none⟩) hbl).trans e3
      have hbl' := Nat.lt_of_lt_of_le hbl hbelow.size
      have HX := hide (HI.out ks[k] (List.getElem_mem hk2) (wellL_mem HWL.out (List.getElem_mem hk2)) (by have := volL_mem (List.getElem_mem hk2); have := HV.out; omega) _ wr (RT.below hbelow hx))
      have hlti : (k : Int) < (n1 : Int) := by omega
      have HB := hide hbelow
      have hws := hbelow.size
      have hsz1 : (txtL (ks.take k)).length ≤ 1000000000 := by
        have := txtL_vol (ks.take k); have := volL_take ks k; have := HV.out; omega
      have hsz2 : (txt ks[k]).length ≤ 1000000000 := by
        have := txt_len ks[k]; have := volL_mem (List.getElem_mem hk2); have := HV.out; omega
      clear hx e0 e1 e2 e3 hbelow
      by_cases h0 : k = 0
      · subst h0
        have HQ := hide (txtL_one ks hk2)
        have hz0 : txtL (ks.take 0) = [] := by simp [txtL]
        rw [hz0] at hsz1 ⊢
        clear hz0
        generalize htk : txt ks[0] = tk at *
        simp only [Nat.zero_mul, Nat.add_zero] at e0' e1' e2' e3'
        go_wp2_with fail
        refine HX.out.mono ?_
        rintro e w2 ⟨rfl, h2⟩
        have HB2 := hide (HB.out.trans (h2.mono hws))
        have HA2 := hide (hr.out.box.below h2)
        clear h2
        go_wp2_with fail
        go_roundg (n1 - (0 + 1))
        case measure => rw [hn.out]; omega
        case rel => exact ⟨0 + 1, rfl, hide (by omega), rfl, by rw [HQ.out]; exact congrArg Value.string (bapp [] _), hide ⟨HB2.out, HA2.out⟩⟩
      · have h0i : (0 : Int) < (k : Int) := by omega
        have HQ := hide (txtL_next ks k hk2 (by omega))
        generalize txtL (ks.take k) = out at *
        generalize htk : txt ks[k] = tk at *
        go_wp2_with fail
        refine HX.out.mono ?_
        rintro e w2 ⟨rfl, h2⟩
        have HB2 := hide (HB.out.trans (h2.mono hws))
        have HA2 := hide (hr.out.box.below h2)
        clear h2
        go_wp2_with fail
        go_roundg (n1 - (k + 1))
        case measure => rw [hn.out]; omega
        case rel => exact ⟨k + 1, rfl, hide (by omega), rfl, by rw [HQ.out]; exact congrArg Value.string (by rw [← bapp, ← bapp]), hide ⟨HB2.out, HA2.out⟩⟩
    · have hlti : ¬ (k : Int) < (n1 : Int) := by omega
      have hke : k = n1 := by have := hk.out; omega
      subst hke
      have HTX := hide (txt_kinds kd cs tx ks k HN1.out HOK.out)
      rw [List.take_of_length_le (by have := HN1.out; omega)]
      have htl : tx.length ≤ 1000000000 := by have := HV.out; omega
      have HQT := hide (fun W (h : Below w.heap.size w W) => rquote_any tx htl a1 c1 W (HT.out.below h))
      rw [HN2.out] at HQT
      obtain ⟨out, hout⟩ : ∃ out, txtL ks = out := ⟨_, rfl⟩
      have hso : out.length ≤ 1000000000 := by
        have := txtL_vol ks; have := HV.out; rw [← hout]; omega
      have hsc : cs.size ≤ 1000000000 := by have := HV.out; omega
      rw [hout] at HTX ⊢
      clear hout htl
      have p0 := hr.out.box.cell 0
      have p1 := hr.out.box.cell 1
      have p2 := hr.out.box.cell 2
      have HB := hide hr.out.below
      rcases HTX.out with ⟨rfl, h0, e⟩ | ⟨rfl, h0, e⟩ | ⟨rfl, e⟩ | ⟨rfl, e⟩ | ⟨rfl, e⟩ | ⟨rfl, e⟩
      · subst h0
        have HE := hide e
        clear e
        go_wp2_with fail
        go_ret
        exact ⟨by rw [HE.out]; rfl, HB.out⟩
      · have h0i : ((k : Int) == 0) = false := by rw [beq_eq_false_iff_ne]; omega
        have HE := hide e
        clear e
        go_wp2_with fail
        go_ret
        refine ⟨?_, HB.out⟩
        rw [HE.out]
        exact congrArg (fun s => Ending.returned (.string s)) (bapp4 cs out)
      · have HE := hide e
        clear e
        go_wp2_with fail
        refine (HQT.out _ HB.out).mono ?_
        rintro e w2 ⟨rfl, h2⟩
        have HB2 := hide (HB.out.trans (h2.mono HB.out.size))
        clear h2
        go_wp2_with fail
        go_ret
        exact ⟨by rw [HE.out]; rfl, HB2.out⟩
      · have HE := hide e
        clear e
        go_wp2_with fail
        go_ret
        refine ⟨?_, HB.out⟩
        rw [HE.out]
        exact congrArg (fun s => Ending.returned (.string s)) ((congrArg (· ++ (⟨#[93]⟩ : ByteArray)) (bapp [91] out)).trans (bapp (91 :: out) [93]))
      · have HE := hide e
        clear e
        go_wp2_with fail
        go_ret
        exact ⟨by rw [HE.out]; rfl, HB.out⟩
      · have HE := hide e
        clear e
        go_wp2_with fail
        go_ret
        refine ⟨?_, HB.out⟩
        rw [HE.out]
        exact congrArg (fun s => Ending.returned (.string s)) (bapp [63] out)
end Go.Proofs.Ytfndldfnlncabaa
