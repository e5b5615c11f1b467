/- The walks of the reference's Count, well, Right, Leaves. -/
import Derived.Test.YtcmhlfnmjpmjhaaRefW
set_option linter.unusedVariables false
set_option linter.unusedSimpArgs false
set_option linter.unnecessarySimpa false
set_option linter.deprecated false
namespace Go.Proofs.Ytcmhlfnmjpmjhaa
open Go.RowKit

/-- Is a document right, but for its text's breaks and its kids? -/
def kindR (k : Int) (t : ByteArray) (n : Int) (kl : Nat) : Bool :=
  if k = 1 ∨ k = 2 then decide (n = 0) && decide (kl = 0)
  else if k = 3 then decide (n = 0) && decide (kl = 0) && decide (t.toList = [])
  else if k = 4 then decide (t.toList = []) && decide (0 ≤ n) && decide (n ≤ 1000)
  else if k = 5 ∨ k = 6 then decide (t.toList = []) && decide (n = 0)
  else false
def noBrk (s : List UInt8) : Bool := s.all (· != 10)
mutual
def wellR : Dc → Bool
  | .mk k t n ks => noBrk t.data.toList && wellRL ks && kindR k t n ks.length
def wellRL : List Dc → Bool
  | [] => true
  | x :: xs => wellR x && wellRL xs
end
theorem index_lt (s : List UInt8) : decide (Lib.indexByte s 10 < 0) = noBrk s := by
  unfold noBrk
  by_cases h : Lib.indexByte s 10 < 0
  · rw [decide_eq_true h]
    symm
    rw [List.all_eq_true]
    intro x hx
    have := not_mem_of_index h
    simp
    rintro rfl
    exact this hx
  · rw [decide_eq_false h]
    symm
    rw [List.all_eq_false]
    obtain ⟨o, ho⟩ := Int.eq_ofNat_of_zero_le (show 0 ≤ Lib.indexByte s 10 by omega)
    obtain ⟨h1, _⟩ := Lib.indexByte_some ho
    exact ⟨10, List.mem_iff_getElem?.2 ⟨o, h1⟩, by simp⟩
theorem okK_R (k : Int) (t : ByteArray) (n : Int) (kl : Nat) : okK k t n kl = (noBrk t.data.toList && kindR k t n kl) := by
  unfold okK kindR
  rw [index_lt]
  have ht : t.toList = [] → noBrk t.data.toList = true := fun h => by
    rw [ByteArray.toList_eq] at h
    rw [h]; rfl
  by_cases h0 : t.toList = []
  · rw [ht h0]
    simp only [h0, decide_true, Bool.true_and, Bool.and_true]
  · simp only [h0, decide_false, Bool.false_and, Bool.and_false]
    split
    · rw [Bool.and_assoc]
    · simp
theorem wellRL_all (ks : List Dc) : wellRL ks = ks.all wellR := by
  induction ks with
  | nil => rw [wellRL]; rfl
  | cons x xs ih => rw [wellRL, ih, List.all_cons]
theorem rt_R : ∀ (d : Dc) (lev : Nat), rtB lev d = (decide (dep d ≤ lev) && wellR d) := by
  refine Dc.induct fun k t n ks ih => ?_
  intro lev
  cases lev with
  | zero => rw [rtB, dep]; simp
  | succ lev =>
    rw [rtB, wellR, okK_R, wellRL_all, dep]
    have hk : ks.all (rtB lev) = (decide (depL ks ≤ lev) && ks.all wellR) := by
      clear t n k
      induction ks with
      | nil => rw [depL]; simp
      | cons x xs ihx =>
        rw [List.all_cons, List.all_cons, ih x (List.mem_cons_self ..) lev, ihx fun y hy => ih y (List.mem_cons_of_mem _ hy), depL]
        by_cases h1 : dep x ≤ lev <;> by_cases h2 : depL xs ≤ lev <;> simp [h1, h2, Nat.max_le]
    rw [hk]
    simp only [Nat.add_le_add_iff_right]
    cases noBrk t.data.toList <;> cases kindR k t n ks.length <;> simp

theorem depL_app (a b : List Dc) : depL (a ++ b) = max (depL a) (depL b) := by
  induction a with
  | nil => rw [List.nil_append]; simp [depL]
  | cons x xs ih => rw [List.cons_append, depL, depL, ih, Nat.max_assoc]
theorem depL_snoc (ks : List Dc) (k : Nat) (h : k < ks.length) : depL (ks.take (k + 1)) = max (depL (ks.take k)) (dep ks[k]) := by
  rw [List.take_succ_eq_append_getElem h, depL_app]
  simp [depL]
mutual
theorem dep_cnt : ∀ d, dep d ≤ cnt d
  | .mk k t n ks => by rw [dep, cnt]; have := depL_cnt ks; omega
theorem depL_cnt : ∀ ks, depL ks ≤ cntL ks
  | [] => by rw [depL]; omega
  | x :: xs => by rw [depL, cntL]; have := dep_cnt x; have := depL_cnt xs; omega
end

/-- What holds between two rounds over kids that are only read. -/
structure KdRel (w : World) (A : Array Value) (ks : List Dc) (k : Nat) (wr : World) : Prop where
  below : Below w.heap.size w wr
  box : Blk wr w.heap.size A 24
  le : k ≤ ks.length
theorem KdRel.start (w : World) (A : Array Value) (ks : List Dc) : KdRel w A ks 0 (w.alloc (.cells A 24)) := ⟨(Below.refl _ w).alloc (Nat.le_refl _) _, Blk.new w _ _, Nat.zero_le _⟩
theorem KdRel.next {w : World} {A : Array Value} {ks : List Dc} {k : Nat} {wr w2 : World} (h : KdRel w A ks k wr) (hb : Below wr.heap.size wr w2) (hk : k < ks.length) : KdRel w A ks (k + 1) w2 := ⟨below_next h.below hb, h.box.below hb, hk⟩

set_option maxHeartbeats 2000000 in
set_option maxRecDepth 100000 in
theorem Count_any : ∀ (d : Dc), cnt d ≤ 10000 → ∀ (v : Value) (w : World), RD w d v → Calls Try.prog 29 #[v] w fun e w' => e = .returned (.tuple #[.int .i64 (cnt d : Int), .int .i64 (dep d : Int)]) ∧ Below w.heap.size w w' := by
  refine Dc.induct fun kd tx nn ks ih => ?_
  intro hc v w hT
  obtain ⟨a2, c2, rfl, hkd, htx, hnn, hks⟩ := hT.open
  simp only [Dc.kind, Dc.text, Dc.num, Dc.kids] at hks htx hkd hnn ⊢
  have hlen := hks.1
  have HK := hide hks
  have HI := hide ih
  rw [cnt] at hc ⊢
  rw [dep]
  have hdc := depL_cnt ks
  have HC := hide hc
  have HDC := hide hdc
  have HR0 := hide (KdRel.start w #[.int .i64 kd, .string tx, .int .i64 nn, .slice a2 ks.length c2] ks)
  clear hks ih hT hc hdc
  go_enter Try.func29, Try.ntmps29
  go_wp2_with fail
  go_loopg [4, 5, 6] ks.length (fun u v4 v5 v6 wr => ∃ k : Nat, Hid (u = ks.length - k) ∧ v6 = .int .i64 (k : Int) ∧ v4 = .int .i64 ((1 + cntL (ks.take k) : Nat) : Int) ∧ v5 = .int .i64 ((depL (ks.take k) + 1 : Nat) : Int) ∧ Hid (KdRel w #[.int .i64 kd, .string tx, .int .i64 nn, .slice a2 ks.length c2] ks k wr))
  case atStart => exact ⟨0, rfl, rfl, by rw [List.take_zero, cntL]; rfl, by rw [List.take_zero, depL]; rfl, HR0⟩
  case round =>
    obtain ⟨k, hu, rfl, rfl, rfl, hr⟩ := hrel
    have hle := hr.out.le
    have p3 := hr.out.box.cell 3
    have pl := hr.out.box.lt
    have hct := cntL_le ks k
    have hcc := HC.out
    have hdd := HDC.out
    have hdt : depL (ks.take k) ≤ cntL (ks.take k) := depL_cnt _
    by_cases hlt : k < ks.length
    · have hlti : (k : Int) < (ks.length : Int) := by omega
      obtain ⟨bk, ob, x3, k3, rfl, hbl, e0, e1, e2, e3, hx⟩ := HK.out.get k hlt
      have hbelow := hr.out.below
      have e0' := (hbelow.cell (p := ⟨bk, ob + k * 4, none⟩) hbl).trans e0
      have e1' := (hbelow.cell (p := ⟨bk, ob + k * 4 + 1, none⟩) hbl).trans e1
      have e2' := (hbelow.cell (p := ⟨bk, ob + k * 4 + 2, none⟩) hbl).trans e2
      have e3' := (hbelow.cell (p := ⟨bk, ob + k * 4 + 3, none⟩) hbl).trans e3
      have hbl' := Nat.lt_of_lt_of_le hbl hbelow.size
      have hcm := cntL_mem (List.getElem_mem hlt)
      have HX := hide (HI.out ks[k] (List.getElem_mem hlt) (by omega) _ _ (RD.below hbelow hx))
      have HCS := hide (cntL_snoc ks k hlt)
      have HDS := hide (depL_snoc ks k hlt)
      have hcl1 := cntL_le ks (k + 1)
      rw [cntL_snoc ks k hlt] at hcl1
      have hdk := dep_cnt ks[k]
      obtain ⟨q, hq⟩ : ∃ q, cntL (ks.take k) = q := ⟨_, rfl⟩
      obtain ⟨p, hp⟩ : ∃ q, depL (ks.take k) = q := ⟨_, rfl⟩
      obtain ⟨ck, hck⟩ : ∃ q, cnt ks[k] = q := ⟨_, rfl⟩
      obtain ⟨dk, hdk2⟩ : ∃ q, dep ks[k] = q := ⟨_, rfl⟩
      rw [hq] at hct hdt hcl1 HCS ⊢
      rw [hp] at hdt HDS ⊢
      rw [hck] at hcl1 HX HCS hdk hcm
      rw [hdk2] at HX HDS hdk
      clear hx e0 e1 e2 e3 hbelow hq hp hck hdk2
      have hle2 : ((1 + q : Nat) : Int) ≤ 20000 := by omega
      by_cases hge : p + 1 ≤ dk
      · have hgei : ((p + 1 : Nat) : Int) ≤ (dk : Int) := by omega
        go_wp2_with fail
        refine HX.out.mono ?_
        rintro e w2 ⟨rfl, h2⟩
        have HN := hide (hr.out.next h2 hlt)
        clear h2
        go_wp2_with fail
        go_roundg (ks.length - (k + 1))
        case measure => rw [hu.out]; omega
        case rel => exact ⟨k + 1, rfl, by go_num, by rw [HCS.out]; congr 1; omega, by rw [HDS.out]; congr 1; omega, HN⟩
      · have hgei : ¬ ((p + 1 : Nat) : Int) ≤ (dk : Int) := by omega
        go_wp2_with fail
        refine HX.out.mono ?_
        rintro e w2 ⟨rfl, h2⟩
        have HN := hide (hr.out.next h2 hlt)
        clear h2
        go_wp2_with fail
        go_roundg (ks.length - (k + 1))
        case measure => rw [hu.out]; omega
        case rel => exact ⟨k + 1, rfl, by go_num, by rw [HCS.out]; congr 1; omega, by rw [HDS.out]; congr 1; omega, HN⟩
    · obtain rfl : k = ks.length := by omega
      rw [List.take_length]
      have HB := hide hr.out.below
      clear hr hct hdt
      go_wp2_with fail
      go_ret2
      exact ⟨rfl, HB.out⟩
end Go.Proofs.Ytcmhlfnmjpmjhaa
