/- The walk of flattened: jobs in a flat group. -/
import Derived.Test.YtcmhlfnmjpmjhaaJobOf
set_option linter.unusedVariables false
set_option linter.unusedSimpArgs false
set_option linter.unnecessarySimpa false
set_option linter.deprecated false
namespace Go.Proofs.Ytcmhlfnmjpmjhaa
open Go.RowKit

mutual
/-- A job in a flat group. -/
def flatd : Jb → Jb
  | .text s => .text s
  | .line s i _ => .line s i true
  | .hard i => .hard i
  | .many ks _ => .many (flatdL ks) false
def flatdL : List Jb → List Jb
  | [] => []
  | x :: xs => flatd x :: flatdL xs
end
theorem flatdL_len (ks : List Jb) : (flatdL ks).length = ks.length := by
  induction ks with
  | nil => rw [flatdL]
  | cons x xs ih => rw [flatdL, List.length_cons, List.length_cons, ih]
theorem flatdL_append (a b : List Jb) : flatdL (a ++ b) = flatdL a ++ flatdL b := by
  induction a with
  | nil => rw [flatdL]; rfl
  | cons x xs ih => rw [List.cons_append, flatdL, flatdL, ih]; rfl
theorem flatdL_snoc (ks : List Jb) (k : Nat) (h : k < ks.length) : flatdL (ks.take (k + 1)) = flatdL (ks.take k) ++ [flatd ks[k]] := by
  rw [List.take_succ_eq_append_getElem h, flatdL_append]
  congr 1
/-- What flattened answers. -/
def FldP (js : List Jb) (n : Nat) (w : World) (e : Ending) (w' : World) : Prop := ∃ a c, e = .returned (.slice a n c) ∧ Hid (RJK (fun k => w.heap.size ≤ k ∧ k < w'.heap.size) w' a (flatdL js)) ∧ Hid (Below w.heap.size w w')
def FldL (js : List Jb) : Prop := cntJL js ≤ 1000000 → ∀ (ok : Nat → Prop) (a : Option Addr) (c : Nat) (w : World), (∀ k, ok k → k < w.heap.size) → RJK ok w a js → Calls Try.prog 80 #[.slice a js.length c] w (FldP js js.length w)
def FldJ : Jb → Prop
  | .many ks _ => FldL ks
  | _ => True
structure FlRel2 (w : World) (js : List Jb) (k : Nat) (v : Value) (wr : World) : Prop where
  below : Below w.heap.size w wr
  ex : ∃ xs, wr.ownsRow w.heap.size 64 1 v k xs ∧ RJX (fun b => (w.heap.size ≤ b ∧ some b ≠ v.ownBlock) ∧ b < wr.heap.size) wr (flatdL (js.take k)) xs
  le : k ≤ js.length

theorem fl_step {w wr : World} {js : List Jb} {k : Nat} {vk : Value} {xs : List Value} (h : FlRel2 w js k vk wr) (hlt : k < js.length) (hown : wr.ownsRow w.heap.size 64 1 vk k xs)
    (hrx : RJX (fun b => (w.heap.size ≤ b ∧ some b ≠ vk.ownBlock) ∧ b < wr.heap.size) wr (flatdL (js.take k)) xs) :
    ∀ (w3 w4 : World) (v' : Value) (T : TypeId) (u : Value), Below wr.heap.size wr w3 → RJ (fun b => wr.heap.size ≤ b ∧ b < w3.heap.size) w3 (flatd js[k]) (.iface T u) → (w3.alloc (.cells #[.iface T u] 64)).grownBy w4 vk.ownBlock →
      w4.ownsRow w.heap.size 64 1 v' (k + 1) (xs ++ [.iface T u]) → (v'.ownBlock = vk.ownBlock ∨ v'.ownBlock = some (w3.alloc (.cells #[.iface T u] 64)).heap.size) → FlRel2 w js (k + 1) v' w4 := by
  intro w3 w4 v' T u b3 hj hg ho hat
  have hs := h.below.size
  have s3 := b3.size
  have sa : (w3.alloc (.cells #[.iface T u] 64)).heap.size = w3.heap.size + 1 := World.size_alloc _ _
  have s4 := hg.size
  have hrow : ∀ j, vk.ownBlock = some j → w.heap.size ≤ j ∧ j < wr.heap.size := fun j hj => by
    obtain ⟨h1, cur, h2⟩ := own_typed hown hj
    exact ⟨h1, (Array.getElem?_eq_some_iff.1 h2).1⟩
  have hba : Below w3.heap.size w3 (w3.alloc (.cells #[.iface T u] 64)) := (Below.refl _ w3).alloc (Nat.le_refl _) _
  have hcell : ∀ b v, some b ≠ vk.ownBlock → b < w3.heap.size → w3.heap[b]? = some v → w4.heap[b]? = some v := fun b v h2 h3 e =>
    ((hg.block b (by omega) h2).trans (hba.block b h3)).trans e
  have hb4 : Below w.heap.size w w4 := (h.below.trans ((b3.trans (hba.mono b3.size)).mono h.below.size)).grown hg (by have := h.below.size; omega) (fun j hj => by have := hrow j hj; omega)
  have hnb : ∀ g', v'.ownBlock = some g' → vk.ownBlock = some g' ∨ g' = w3.heap.size + 1 := fun g' e => by
    rcases hat with h1 | h1
    · exact .inl (h1 ▸ e)
    · right; rw [h1] at e; injection e with e; omega
  refine ⟨hb4, ⟨_, ho, ?_⟩, hlt⟩
  rw [flatdL_snoc _ _ hlt]
  refine RJX.snoc (RJ.map (by omega) (fun b hb => ⟨⟨by omega, fun e => ?_⟩, by omega⟩) (fun b c hb e => hcell b _ (fun e2 => by have := hrow _ e2.symm; omega) hb.2 e) hj)
    (RJX.map (by omega) (fun b hb => ⟨⟨hb.1.1, fun e => ?_⟩, by omega⟩) (fun b c hb e => hcell b _ hb.1.2 (by omega) ((b3.block b hb.2).trans e)) hrx)
  · rcases hnb b e.symm with h1 | h1
    · have := hrow _ h1; omega
    · omega
  · rcases hnb b e.symm with h1 | h1
    · exact hb.1.2 h1.symm
    · omega

/-- Behind a call that is handed a new box of a job. -/
theorem fl_box {wr w3 : World} {o1 o2 : Obj} (h : Below (wr.alloc o1).heap.size (wr.alloc o1) w3) : Below wr.heap.size wr (w3.alloc o2) :=
  (((Below.refl _ wr).alloc (Nat.le_refl _) o1).trans (h.mono (by rw [World.size_alloc]; omega))).alloc (by have := h.size; rw [World.size_alloc] at this; omega) o2
theorem fl_own {B n : Nat} {wr w3 : World} {o1 o2 o3 : Obj} {v : Value} {xs : List Value} (ho : wr.ownsRow B 64 1 v n xs) (h : Below (wr.alloc o1).heap.size (wr.alloc o1) w3) : ((w3.alloc o2).alloc o3).ownsRow B 64 1 v n xs := (own_below ho (fl_box h)).alloc _
theorem fl_new (w3 : World) (o : Obj) (v : Value) : ∀ (j : Nat) (u : Value), [v][j]? = some u → ((w3.alloc o).alloc (.cells #[v] 64)).cell? ((⟨w3.heap.size + 1, 0, none⟩ : Addr).add j) = some u := by
  have h := cell_one_new (w3.alloc o) v 64
  rw [World.size_alloc] at h
  exact h
theorem fl_size {w wr w3 : World} {o1 o2 o3 : Obj} (hb : Below w.heap.size w wr) (h : Below (wr.alloc o1).heap.size (wr.alloc o1) w3) : w.heap.size ≤ ((w3.alloc o2).alloc o3).heap.size := by
  have h1 := hb.size
  have h2 := h.size
  rw [World.size_alloc] at h2
  rw [World.size_alloc, World.size_alloc]
  omega
theorem fl_rj {wr w3 : World} {o1 o2 : Obj} {a : Option Addr} {c : Nat} {ks : List Jb} {g : Bool} (h : RJK (fun k => (wr.alloc o1).heap.size ≤ k ∧ k < w3.heap.size) w3 a (flatdL ks)) (hl : ks.length ≤ 140737488351232) :
    RJ (fun b => wr.heap.size ≤ b ∧ b < (w3.alloc o2).heap.size) (w3.alloc o2) (flatd (.many ks g)) (.iface 81 (.agg #[.slice a ks.length c, .bool false])) := by
  rw [flatd, RJ]
  have hb : Below w3.heap.size w3 (w3.alloc o2) := (Below.refl _ w3).alloc (Nat.le_refl _) _
  have h2 := RJK.map hb.size (ok' := fun b => wr.heap.size ≤ b ∧ b < (w3.alloc o2).heap.size) (fun k hk => by have := hk.1; rw [World.size_alloc] at this; rw [World.size_alloc]; omega) (fun b c hk e => (hb.block b hk.2).trans e) h
  exact ⟨a, c, by rw [flatdL_len], by rw [flatdL_len]; exact hl, h2.2⟩

abbrev emptyB : ByteArray := ⟨#[]⟩
theorem as_75_81 (u : Value) (W : World) : (Instr.typeAssert (.iface 75 u) 64 81 true).run Try.prog W = .ok (.tuple #[.agg #[.slice none 0 0, .bool false], .bool false]) W := by kernel_rfl
theorem as_77_81 (u : Value) (W : World) : (Instr.typeAssert (.iface 77 u) 64 81 true).run Try.prog W = .ok (.tuple #[.agg #[.slice none 0 0, .bool false], .bool false]) W := by kernel_rfl
theorem as_79_81 (u : Value) (W : World) : (Instr.typeAssert (.iface 79 u) 64 81 true).run Try.prog W = .ok (.tuple #[.agg #[.slice none 0 0, .bool false], .bool false]) W := by kernel_rfl
theorem as_81_81 (u : Value) (W : World) : (Instr.typeAssert (.iface 81 u) 64 81 true).run Try.prog W = .ok (.tuple #[u, .bool true]) W := by kernel_rfl
theorem as_75_77 (u : Value) (W : World) : (Instr.typeAssert (.iface 75 u) 64 77 true).run Try.prog W = .ok (.tuple #[.agg #[.string emptyB, .int .i64 0, .bool false], .bool false]) W := by kernel_rfl
theorem as_79_77 (u : Value) (W : World) : (Instr.typeAssert (.iface 79 u) 64 77 true).run Try.prog W = .ok (.tuple #[.agg #[.string emptyB, .int .i64 0, .bool false], .bool false]) W := by kernel_rfl
theorem as_81_77 (u : Value) (W : World) : (Instr.typeAssert (.iface 81 u) 64 77 true).run Try.prog W = .ok (.tuple #[.agg #[.string emptyB, .int .i64 0, .bool false], .bool false]) W := by kernel_rfl
theorem as_77_77 (u : Value) (W : World) : (Instr.typeAssert (.iface 77 u) 64 77 true).run Try.prog W = .ok (.tuple #[u, .bool true]) W := by kernel_rfl

set_option maxHeartbeats 4000000 in
set_option maxRecDepth 100000 in
theorem flattened_list (js : List Jb) (ih : ∀ j ∈ js, FldJ j) : FldL js := by
  intro hc ok a c w hok h
  have hl := h.1
  have hlc := len_cntJL js
  have HK := hide h
  have HI := hide ih
  have HC := hide hc
  have HOK := hide hok
  clear h ih hok
  obtain ⟨i0, hi, hz0, hz1, hz2⟩ := info_parts info64
  have q1 := as_75_81
  have q2 := as_77_81
  have q3 := as_79_81
  have q4 := as_81_81
  have q5 := as_75_77
  have q6 := as_79_77
  have q7 := as_81_77
  have q8 := as_77_77
  go_enter Try.func80, Try.ntmps80
  go_wp2_with (at_make; refine wpList_make_own _ rfl _ _ 66 rfl w.heap.size 64 i0 _ 1 Try.underlying66 hi hz0 hz1 _ _ _ js.length rfl rfl rfl (by rw [hz2]; omega) (by unfold maxLen; omega) (Nat.le_refl _) ?_; intro w1 hown0 hg0; have HO0 := hide hown0; have HG0 := hide hg0; clear hown0 hg0)
  go_loopg [3, 15] js.length (fun u v3 v15 wr => ∃ k : Nat, Hid (u = js.length - k) ∧ v15 = .int .i64 (k : Int) ∧ Hid (FlRel2 w js k v3 wr))
  case atStart => exact ⟨0, rfl, rfl, ⟨(Below.refl _ _).grown HG0.out (Nat.le_refl _) (fun k e => by cases e), ⟨[], HO0.out, by rw [List.take_zero, flatdL]; rfl⟩, Nat.zero_le _⟩⟩
  case round =>
    obtain ⟨k, hu, rfl, hr⟩ := hrel
    have hle := hr.out.le
    by_cases hlt : k < js.length
    · have hlti : (k : Int) < (js.length : Int) := by omega
      obtain ⟨b, o, v, rfl, hob, hbl, e0, hx⟩ := HK.out.get k hlt
      have hbelow := hr.out.below
      have e0' := (hbelow.cell (p := ⟨b, o + k, none⟩) hbl).trans e0
      have hbl' := Nat.lt_of_lt_of_le hbl hbelow.size
      obtain ⟨xs, hown, hrx⟩ := hr.out.ex
      have HMEM := hide (List.getElem_mem hlt)
      have HST := hide (fl_step hr.out hlt hown hrx)
      obtain ⟨J, hJ⟩ : ∃ J, js[k] = J := ⟨_, rfl⟩
      rw [hJ] at hx HST HMEM
      have hbase := hbelow.size
      have HX := hide hx
      have HBL := hide hbelow
      clear hx hJ hbelow hrx e0
      cases J with
      | text s =>
        have hx := HX.out
        rw [RJ] at hx
        obtain ⟨rfl, hs⟩ := hx
        have hb3 : Below wr.heap.size wr ((wr.alloc (.cells #[.slice none 0 0, .bool false] 81)).alloc (.cells #[.string emptyB, .int .i64 0, .bool false] 77)) := ((Below.refl _ wr).alloc (Nat.le_refl _) _).alloc (by simp) _
        have HRJ := hide (show RJ (fun b => wr.heap.size ≤ b ∧ b < ((wr.alloc (.cells #[.slice none 0 0, .bool false] 81)).alloc (.cells #[.string emptyB, .int .i64 0, .bool false] 77)).heap.size) ((wr.alloc (.cells #[.slice none 0 0, .bool false] 81)).alloc (.cells #[.string emptyB, .int .i64 0, .bool false] 77)) (flatd (.text s)) (.iface 75 (.agg #[.string s])) from by rw [flatd, RJ]; exact ⟨rfl, hs⟩)
        have HSX := hide (fun w4 v' h1 h2 h3 => HST.out _ w4 v' _ _ hb3 HRJ.out h1 h2 h3)
        have hown3 := own_below hown hb3
        have hnew := cell_one_new ((wr.alloc (.cells #[.slice none 0 0, .bool false] 81)).alloc (.cells #[.string emptyB, .int .i64 0, .bool false] 77)) (.iface 75 (.agg #[.string s])) 64
        rw [World.size_alloc, World.size_alloc] at hnew
        have hs3 : w.heap.size ≤ (((wr.alloc (.cells #[.slice none 0 0, .bool false] 81)).alloc (.cells #[.string emptyB, .int .i64 0, .bool false] 77)).alloc (.cells #[.iface 75 (.agg #[.string s])] 64)).heap.size := by simp; omega
        clear hb3 hown
        go_wp2_with (at_builtin; refine wpList_append_own_at _ rfl _ _ 66 rfl w.heap.size 64 i0 _ 1 16 Try.underlying66 hi hz0 hz1 hz2 rfl (by decide) _ k xs rfl (hown3.alloc _) ⟨wr.heap.size + 1 + 1, 0, none⟩ 1 1 [.iface 75 (.agg #[.string s])] rfl rfl hnew (by simp [Value.oneCell']) (by unfold maxLen; omega) (by omega) hs3 ?_; intro v' w4 hown' hgrow hnil hat; have HN := hide (HSX.out _ _ hgrow hown' hat); clear hown' hgrow hnil hat)
        go_roundg (js.length - (k + 1))
        case measure => rw [hu.out]; omega
        case rel => exact ⟨k + 1, rfl, rfl, HN.out⟩
      | line s i fl =>
        have hx := HX.out
        rw [RJ] at hx
        obtain ⟨rfl, hs⟩ := hx
        have hb3 : Below wr.heap.size wr ((wr.alloc (.cells #[.slice none 0 0, .bool false] 81)).alloc (.cells #[.string s, .int .i64 (i : Int), .bool true] 77)) := ((Below.refl _ wr).alloc (Nat.le_refl _) _).alloc (by simp) _
        have HRJ := hide (show RJ (fun b => wr.heap.size ≤ b ∧ b < ((wr.alloc (.cells #[.slice none 0 0, .bool false] 81)).alloc (.cells #[.string s, .int .i64 (i : Int), .bool true] 77)).heap.size) ((wr.alloc (.cells #[.slice none 0 0, .bool false] 81)).alloc (.cells #[.string s, .int .i64 (i : Int), .bool true] 77)) (flatd (.line s i fl)) (.iface 77 (.agg #[.string s, .int .i64 (i : Int), .bool true])) from by rw [flatd, RJ]; exact ⟨rfl, hs⟩)
        have HSX := hide (fun w4 v' h1 h2 h3 => HST.out _ w4 v' _ _ hb3 HRJ.out h1 h2 h3)
        have hown3 := own_below hown hb3
        have hnew := cell_one_new ((wr.alloc (.cells #[.slice none 0 0, .bool false] 81)).alloc (.cells #[.string s, .int .i64 (i : Int), .bool true] 77)) (.iface 77 (.agg #[.string s, .int .i64 (i : Int), .bool true])) 64
        rw [World.size_alloc, World.size_alloc] at hnew
        have hs3 : w.heap.size ≤ (((wr.alloc (.cells #[.slice none 0 0, .bool false] 81)).alloc (.cells #[.string s, .int .i64 (i : Int), .bool true] 77)).alloc (.cells #[.iface 77 (.agg #[.string s, .int .i64 (i : Int), .bool true])] 64)).heap.size := by simp; omega
        clear hb3 hown
        go_wp2_with (at_builtin; refine wpList_append_own_at _ rfl _ _ 66 rfl w.heap.size 64 i0 _ 1 16 Try.underlying66 hi hz0 hz1 hz2 rfl (by decide) _ k xs rfl (hown3.alloc _) ⟨wr.heap.size + 1 + 1, 0, none⟩ 1 1 [.iface 77 (.agg #[.string s, .int .i64 (i : Int), .bool true])] rfl rfl hnew (by simp [Value.oneCell']) (by unfold maxLen; omega) (by omega) hs3 ?_; intro v' w4 hown' hgrow hnil hat; have HN := hide (HSX.out _ _ hgrow hown' hat); clear hown' hgrow hnil hat)
        go_roundg (js.length - (k + 1))
        case measure => rw [hu.out]; omega
        case rel => exact ⟨k + 1, rfl, rfl, HN.out⟩
      | hard i =>
        have hx := HX.out
        rw [RJ] at hx
        subst hx
        have hb3 : Below wr.heap.size wr ((wr.alloc (.cells #[.slice none 0 0, .bool false] 81)).alloc (.cells #[.string emptyB, .int .i64 0, .bool false] 77)) := ((Below.refl _ wr).alloc (Nat.le_refl _) _).alloc (by simp) _
        have HRJ := hide (show RJ (fun b => wr.heap.size ≤ b ∧ b < ((wr.alloc (.cells #[.slice none 0 0, .bool false] 81)).alloc (.cells #[.string emptyB, .int .i64 0, .bool false] 77)).heap.size) ((wr.alloc (.cells #[.slice none 0 0, .bool false] 81)).alloc (.cells #[.string emptyB, .int .i64 0, .bool false] 77)) (flatd (.hard i)) (.iface 79 (.agg #[.int .i64 (i : Int)])) from by rw [flatd, RJ]; skip)
        have HSX := hide (fun w4 v' h1 h2 h3 => HST.out _ w4 v' _ _ hb3 HRJ.out h1 h2 h3)
        have hown3 := own_below hown hb3
        have hnew := cell_one_new ((wr.alloc (.cells #[.slice none 0 0, .bool false] 81)).alloc (.cells #[.string emptyB, .int .i64 0, .bool false] 77)) (.iface 79 (.agg #[.int .i64 (i : Int)])) 64
        rw [World.size_alloc, World.size_alloc] at hnew
        have hs3 : w.heap.size ≤ (((wr.alloc (.cells #[.slice none 0 0, .bool false] 81)).alloc (.cells #[.string emptyB, .int .i64 0, .bool false] 77)).alloc (.cells #[.iface 79 (.agg #[.int .i64 (i : Int)])] 64)).heap.size := by simp; omega
        clear hb3 hown
        go_wp2_with (at_builtin; refine wpList_append_own_at _ rfl _ _ 66 rfl w.heap.size 64 i0 _ 1 16 Try.underlying66 hi hz0 hz1 hz2 rfl (by decide) _ k xs rfl (hown3.alloc _) ⟨wr.heap.size + 1 + 1, 0, none⟩ 1 1 [.iface 79 (.agg #[.int .i64 (i : Int)])] rfl rfl hnew (by simp [Value.oneCell']) (by unfold maxLen; omega) (by omega) hs3 ?_; intro v' w4 hown' hgrow hnil hat; have HN := hide (HSX.out _ _ hgrow hown' hat); clear hown' hgrow hnil hat)
        go_roundg (js.length - (k + 1))
        case measure => rw [hu.out]; omega
        case rel => exact ⟨k + 1, rfl, rfl, HN.out⟩
      | many ks g =>
        have hx := HX.out
        rw [RJ] at hx
        obtain ⟨a1, c1, rfl, hl1, hx1⟩ := hx
        have hba : Below w.heap.size w (wr.alloc (.cells #[.slice a1 ks.length c1, .bool g] 81)) := HBL.out.alloc hbase _
        have C := (show FldL ks from HI.out _ HMEM.out) (by have h1 := cntJL_mem HMEM.out; rw [cntJ] at h1; have := HC.out; omega) (fun k => ok k ∧ k < wr.heap.size) a1 c1 (wr.alloc (.cells #[.slice a1 ks.length c1, .bool g] 81)) (fun k h => by rw [World.size_alloc]; omega) (RJK.map hba.size (fun k h => ⟨h, Nat.lt_of_lt_of_le (HOK.out k h) hbase⟩) (fun b c hb e => (hba.block b (HOK.out _ hb)).trans e) (show RJK ok w a1 ks from ⟨hl1, hx1⟩))
        have HC1 := hide C
        clear C hx1 hba
        go_wp2_with (first | (go_at_call 80; refine (HC1.out).mono ?_; rintro e w3 ⟨a2, c2, rfl, hrj, hb2⟩) | (at_builtin; refine wpList_append_own_at _ rfl _ _ 66 rfl w.heap.size 64 i0 _ 1 16 Try.underlying66 hi hz0 hz1 hz2 rfl (by decide) _ k xs rfl (fl_own hown hb2.out) ⟨w3.heap.size + 1, 0, none⟩ 1 1 [.iface 81 (.agg #[.slice a2 ks.length c2, .bool false])] rfl rfl (fl_new _ _ _) (by simp [Value.oneCell']) (by unfold maxLen; omega) (by omega) (fl_size HBL.out hb2.out) ?_; intro v' w4 hown' hgrow hnil hat; have HN := hide (HST.out _ _ v' _ _ (fl_box hb2.out) (fl_rj hrj.out hl1) hgrow hown' hat); clear hown' hgrow hnil hat))
        go_roundg (js.length - (k + 1))
        case measure => rw [hu.out]; omega
        case rel => exact ⟨k + 1, rfl, rfl, HN.out⟩
    · have hk : k = js.length := by omega
      subst hk
      have hlti : ¬ ((js.length : Int) < (js.length : Int)) := by omega
      obtain ⟨xs, hown, hrx⟩ := hr.out.ex
      rw [List.take_length] at hrx
      have hb := hr.out.below
      clear hlt
      go_wp2_with fail
      obtain ⟨a3, c3, rfl, hnl, hrk⟩ := RJX.slice hown hrx (by omega) (ok' := fun b => w.heap.size ≤ b ∧ b < wr.heap.size) (fun b hb => ⟨hb.1.1, hb.2⟩) (fun g hg => by obtain ⟨h1, cur, h2⟩ := own_typed hown hg; exact ⟨h1, (Array.getElem?_eq_some_iff.1 h2).1⟩)
      go_ret
      exact ⟨a3, c3, rfl, hrk, hb⟩

theorem flattened_any : ∀ j, FldJ j := by
  refine Jb.induct (fun s => trivial) (fun s i f => trivial) (fun i => trivial) (fun ks g ih => flattened_list ks ih)
theorem flattened_all (js : List Jb) : FldL js := flattened_list js (fun j _ => flattened_any j)
end Go.Proofs.Ytcmhlfnmjpmjhaa
