/- Jobs: what it is for a value to read as a job; how many bytes a job has when it is flat, and ahead of its first break. -/
import Derived.Test.YtcmhlfnmjpmjhaaParts
import Derived.Test.YtcmhlfnmjpmjhaaRange
set_option linter.unusedVariables false
set_option linter.unusedSimpArgs false
set_option linter.unnecessarySimpa false
set_option linter.deprecated false
namespace Go.Proofs.Ytcmhlfnmjpmjhaa
open Go.RowKit

/-- A job. -/
inductive Jb where
  | text (s : ByteArray)
  | line (s : ByteArray) (ind : Int) (fl : Bool)
  | hard (ind : Int)
  | many (ks : List Jb) (g : Bool)
theorem Jb.induct {P : Jb → Prop} (h1 : ∀ s, P (.text s)) (h2 : ∀ s i f, P (.line s i f)) (h3 : ∀ i, P (.hard i)) (h4 : ∀ ks g, (∀ x ∈ ks, P x) → P (.many ks g)) : ∀ j, P j := by
  intro j
  exact Jb.rec (motive_1 := P) (motive_2 := fun ks => ∀ x ∈ ks, P x) h1 h2 h3 (fun ks g ih => h4 ks g ih) (fun x hx => by cases hx) (fun x xs hx hxs y hy => by
    rcases List.mem_cons.1 hy with rfl | hy
    · exact hx
    · exact hxs y hy) j
mutual
def cntJ : Jb → Nat
  | .text _ => 1
  | .line _ _ _ => 1
  | .hard _ => 1
  | .many ks _ => 1 + cntJL ks
def cntJL : List Jb → Nat
  | [] => 0
  | x :: xs => cntJ x + cntJL xs
end
mutual
/-- The bytes of a job's flat text. -/
def flJ : Jb → Nat
  | .text s => s.size
  | .line s _ _ => s.size
  | .hard _ => 0
  | .many ks _ => flJL ks
def flJL : List Jb → Nat
  | [] => 0
  | x :: xs => flJ x + flJL xs
end
mutual
/-- Has it a hard break? -/
def hdJ : Jb → Bool
  | .text _ => false
  | .line _ _ _ => false
  | .hard _ => true
  | .many ks _ => hdJL ks
def hdJL : List Jb → Bool
  | [] => false
  | x :: xs => hdJ x || hdJL xs
end
mutual
/-- The bytes ahead of its first break, and whether it has none. -/
def rcJ : Jb → Nat × Bool
  | .text s => (s.size, true)
  | .line _ _ _ => (0, false)
  | .hard _ => (0, false)
  | .many ks _ => rcJL ks
def rcJL : List Jb → Nat × Bool
  | [] => (0, true)
  | x :: xs => if (rcJ x).2 then ((rcJ x).1 + (rcJL xs).1, (rcJL xs).2) else ((rcJ x).1, false)
end
mutual
theorem rc_fl : ∀ j, (rcJ j).1 ≤ flJ j
  | .text s => by rw [rcJ, flJ]; exact Nat.le_refl _
  | .line _ _ _ => by rw [rcJ]; exact Nat.zero_le _
  | .hard _ => by rw [rcJ]; exact Nat.zero_le _
  | .many ks _ => by rw [rcJ, flJ]; exact rc_flL ks
theorem rc_flL : ∀ js, (rcJL js).1 ≤ flJL js
  | [] => by rw [rcJL]; exact Nat.zero_le _
  | x :: xs => by
    rw [rcJL, flJL]
    have h1 := rc_fl x
    have h2 := rc_flL xs
    split <;> simp only [] <;> omega
end
theorem flJL_append (a b : List Jb) : flJL (a ++ b) = flJL a + flJL b := by
  induction a with
  | nil => rw [flJL]; simp
  | cons x xs ih => rw [List.cons_append, flJL, flJL, ih]; omega
theorem cntJL_append (a b : List Jb) : cntJL (a ++ b) = cntJL a + cntJL b := by
  induction a with
  | nil => rw [cntJL]; simp
  | cons x xs ih => rw [List.cons_append, cntJL, cntJL, ih]; omega
theorem cntJ_pos (j : Jb) : 1 ≤ cntJ j := by cases j <;> rw [cntJ] <;> omega
theorem len_cntJL : ∀ (ks : List Jb), ks.length ≤ cntJL ks
  | [] => by simp
  | x :: xs => by rw [cntJL, List.length_cons]; have := len_cntJL xs; have := cntJ_pos x; omega
theorem flJL_mem {x : Jb} : ∀ {ks : List Jb}, x ∈ ks → flJ x ≤ flJL ks
  | [], h => by cases h
  | y :: ys, h => by
    rw [flJL]
    rcases List.mem_cons.1 h with rfl | h
    · omega
    · have := flJL_mem h; omega
theorem cntJL_mem {x : Jb} : ∀ {ks : List Jb}, x ∈ ks → cntJ x ≤ cntJL ks
  | [], h => by cases h
  | y :: ys, h => by
    rw [cntJL]
    rcases List.mem_cons.1 h with rfl | h
    · omega
    · have := cntJL_mem h; omega

/-- A block holds jobs. -/
abbrev T64 (w : World) (b : Nat) : Prop := ∃ c, w.heap[b]? = some (Obj.cells c 64 (0, 0))
theorem T64.lt {w : World} {b : Nat} (h : T64 w b) : b < w.heap.size := by obtain ⟨c, h⟩ := h; exact (Array.getElem?_eq_some_iff.1 h).1
mutual
/-- A value reads as a job; all blocks are as told. -/
def RJ (ok : Nat → Prop) (w : World) : Jb → Value → Prop
  | .text s, v => v = .iface 75 (.agg #[.string s]) ∧ s.size ≤ 140737488351232
  | .line s i f, v => v = .iface 77 (.agg #[.string s, .int .i64 i, .bool f]) ∧ s.size ≤ 140737488351232
  | .hard i, v => v = .iface 79 (.agg #[.int .i64 i])
  | .many ks g, v => ∃ a c, v = .iface 81 (.agg #[.slice a ks.length c, .bool g]) ∧ ks.length ≤ 140737488351232 ∧ (ks ≠ [] → ∃ b o, a = some ⟨b, o, none⟩ ∧ ok b ∧ T64 w b ∧ RJs ok w b o ks)
/-- Jobs lie one behind the other. -/
def RJs (ok : Nat → Prop) (w : World) (b : Nat) : Nat → List Jb → Prop
  | _, [] => True
  | o, x :: xs => (∃ v, w.cell? ⟨b, o, none⟩ = some v ∧ RJ ok w x v) ∧ RJs ok w b (o + 1) xs
end
/-- A slice of jobs reads as a list. -/
def RJK (ok : Nat → Prop) (w : World) (a : Option Addr) (ks : List Jb) : Prop := ks.length ≤ 140737488351232 ∧ (ks ≠ [] → ∃ b o, a = some ⟨b, o, none⟩ ∧ ok b ∧ T64 w b ∧ RJs ok w b o ks)
mutual
theorem RJ.map {ok ok' : Nat → Prop} {w w' : World} (hs : w.heap.size ≤ w'.heap.size) (ho : ∀ k, ok k → ok' k) (hk : ∀ b c, ok b → w.heap[b]? = some (Obj.cells c 64 (0, 0)) → w'.heap[b]? = some (Obj.cells c 64 (0, 0))) : ∀ {j : Jb} {v : Value}, RJ ok w j v → RJ ok' w' j v
  | .text s, v, h => by rw [RJ] at h ⊢; exact h
  | .line s i f, v, h => by rw [RJ] at h ⊢; exact h
  | .hard i, v, h => by rw [RJ] at h ⊢; exact h
  | .many ks g, v, h => by
    rw [RJ] at h ⊢
    obtain ⟨a, c, e, h1, h2⟩ := h
    exact ⟨a, c, e, h1, fun hn => by
      obtain ⟨b, o, e2, hb, hl, hr⟩ := h2 hn
      obtain ⟨x, hx⟩ := hl
      exact ⟨b, o, e2, ho b hb, ⟨x, hk b x hb hx⟩, RJs.map hs ho hk hb ⟨x, hx⟩ hr⟩⟩
theorem RJs.map {ok ok' : Nat → Prop} {w w' : World} (hs : w.heap.size ≤ w'.heap.size) (ho : ∀ k, ok k → ok' k) (hk : ∀ b c, ok b → w.heap[b]? = some (Obj.cells c 64 (0, 0)) → w'.heap[b]? = some (Obj.cells c 64 (0, 0))) {b : Nat} (hb : ok b) (hx : T64 w b) : ∀ {ks : List Jb} {o : Nat}, RJs ok w b o ks → RJs ok' w' b o ks
  | [], _, _ => by rw [RJs]; trivial
  | x :: xs, o, h => by
    rw [RJs] at h ⊢
    obtain ⟨⟨v, h1, h2⟩, hr⟩ := h
    exact ⟨⟨v, by
      obtain ⟨x, hx⟩ := hx
      exact (World.cell?_of_block (a := ⟨b, o, none⟩) (by show w'.heap[b]? = w.heap[b]?; rw [hx, hk b x hb hx])).trans h1, RJ.map hs ho hk h2⟩, RJs.map hs ho hk hb hx hr⟩
end
theorem RJ.step {ok : Nat → Prop} {w w' : World} {j : Jb} {v : Value} (h : RJ ok w j v) (hw : Below w.heap.size w w') (hok : ∀ k, ok k → k < w.heap.size) : RJ ok w' j v :=
  RJ.map hw.size (fun _ h => h) (fun b c hb e => (hw.block b (hok b hb)).trans e) h
theorem RJ.keep {ok : Nat → Prop} {w w' : World} {j : Jb} {v : Value} (h : RJ ok w j v) (hw : Keep ok w w') (hok : ∀ k, ok k → k < w.heap.size) : RJ ok w' j v :=
  RJ.map hw.size (fun _ h => h) (fun b c hb e => (hw.block b hb (hok b hb)).trans e) h
theorem RJ.weak {ok ok' : Nat → Prop} {w : World} {j : Jb} {v : Value} (h : RJ ok w j v) (ho : ∀ k, ok k → ok' k) : RJ ok' w j v :=
  RJ.map (Nat.le_refl _) ho (fun _ _ _ e => e) h
theorem RJK.map {ok ok' : Nat → Prop} {w w' : World} {a : Option Addr} {ks : List Jb} (hs : w.heap.size ≤ w'.heap.size) (ho : ∀ k, ok k → ok' k) (hk : ∀ b c, ok b → w.heap[b]? = some (Obj.cells c 64 (0, 0)) → w'.heap[b]? = some (Obj.cells c 64 (0, 0))) (h : RJK ok w a ks) : RJK ok' w' a ks :=
  ⟨h.1, fun hn => by
    obtain ⟨b, o, e, hb, ⟨x, hx⟩, hr⟩ := h.2 hn
    exact ⟨b, o, e, ho b hb, ⟨x, hk b x hb hx⟩, RJs.map hs ho hk hb ⟨x, hx⟩ hr⟩⟩
theorem RJs.get {ok : Nat → Prop} {w : World} {b : Nat} : ∀ {ks : List Jb} {o : Nat}, RJs ok w b o ks → ∀ i (hi : i < ks.length), ∃ v, w.cell? ⟨b, o + i, none⟩ = some v ∧ RJ ok w ks[i] v
  | [], _, _, i, hi => by simp at hi
  | x :: xs, o, h, 0, _ => by
    rw [RJs] at h
    simpa using h.1
  | x :: xs, o, h, i + 1, hi => by
    rw [RJs] at h
    have := RJs.get h.2 i (by simpa using hi)
    simpa [Nat.add_assoc, Nat.add_comm 1] using this
theorem RJs.of {ok : Nat → Prop} {w : World} {b : Nat} : ∀ {ks : List Jb} {o : Nat}, (∀ i (hi : i < ks.length), ∃ v, w.cell? ⟨b, o + i, none⟩ = some v ∧ RJ ok w ks[i] v) → RJs ok w b o ks
  | [], _, _ => by rw [RJs]; trivial
  | x :: xs, o, h => by
    rw [RJs]
    refine ⟨?_, RJs.of fun i hi => ?_⟩
    · have h0 := h 0 (by simp)
      simpa using h0
    have := h (i + 1) (by simpa using hi)
    simpa [Nat.add_assoc, Nat.add_comm 1] using this
theorem RJK.get {ok : Nat → Prop} {w : World} {a : Option Addr} {ks : List Jb} (h : RJK ok w a ks) (i : Nat) (hi : i < ks.length) : ∃ b o v, a = some ⟨b, o, none⟩ ∧ ok b ∧ b < w.heap.size ∧ w.cell? ⟨b, o + i, none⟩ = some v ∧ RJ ok w ks[i] v := by
  obtain ⟨b, o, e, ho, hb, hr⟩ := h.2 (by rintro rfl; simp at hi)
  obtain ⟨v, h0, hx⟩ := hr.get i hi
  exact ⟨b, o, v, e, ho, hb.lt, h0, hx⟩
/-- What a job's value is an interface's. -/
theorem RJ.iface {ok : Nat → Prop} {w : World} {j : Jb} {v : Value} (h : RJ ok w j v) : ∃ t u, v = .iface t u := by
  cases j <;> rw [RJ] at h
  · exact ⟨_, _, h.1⟩
  · exact ⟨_, _, h.1⟩
  · exact ⟨_, _, h⟩
  · obtain ⟨a, c, e, _⟩ := h
    exact ⟨_, _, e⟩

set_option maxHeartbeats 1000000 in
theorem flat_text (s : ByteArray) (w : World) (hs : s.size ≤ 140737488351232) : Calls Try.prog 56 #[.agg #[.string s]] w fun e w' => e = .returned (.tuple #[.int .i64 (s.size : Int), .bool false]) ∧ Below w.heap.size w w' := by
  go_enter Try.func56, Try.ntmps56
  go_wp2_with fail
  go_ret2
  exact ⟨rfl, (Below.refl _ w).alloc (Nat.le_refl _) _⟩


set_option maxHeartbeats 1000000 in
theorem reach_text (s : ByteArray) (w : World) (hs : s.size ≤ 140737488351232) : Calls Try.prog 57 #[.agg #[.string s]] w fun e w' => e = .returned (.tuple #[.int .i64 (s.size : Int), .bool true]) ∧ Below w.heap.size w w' := by
  go_enter Try.func57, Try.ntmps57
  go_wp2_with fail
  go_ret2
  exact ⟨rfl, (Below.refl _ w).alloc (Nat.le_refl _) _⟩
set_option maxHeartbeats 1000000 in
theorem flat_line (s : ByteArray) (i : Int) (f : Bool) (w : World) (hs : s.size ≤ 140737488351232) : Calls Try.prog 60 #[.agg #[.string s, .int .i64 i, .bool f]] w fun e w' => e = .returned (.tuple #[.int .i64 (s.size : Int), .bool false]) ∧ Below w.heap.size w w' := by
  go_enter Try.func60, Try.ntmps60
  go_wp2_with fail
  go_ret2
  exact ⟨rfl, (Below.refl _ w).alloc (Nat.le_refl _) _⟩
set_option maxHeartbeats 1000000 in
theorem reach_line (s : ByteArray) (i : Int) (f : Bool) (w : World) : Calls Try.prog 61 #[.agg #[.string s, .int .i64 i, .bool f]] w fun e w' => e = .returned (.tuple #[.int .i64 ((0 : Nat) : Int), .bool false]) ∧ Below w.heap.size w w' := by
  go_enter Try.func61, Try.ntmps61
  go_wp2_with fail
  go_ret2
  exact ⟨rfl, (Below.refl _ w).alloc (Nat.le_refl _) _⟩
set_option maxHeartbeats 1000000 in
theorem flat_hard (i : Int) (w : World) : Calls Try.prog 74 #[.agg #[.int .i64 i]] w fun e w' => e = .returned (.tuple #[.int .i64 ((0 : Nat) : Int), .bool true]) ∧ Below w.heap.size w w' := by
  go_enter Try.func74, Try.ntmps74
  go_wp2_with fail
  go_ret2
  exact ⟨rfl, (Below.refl _ w).alloc (Nat.le_refl _) _⟩
set_option maxHeartbeats 1000000 in
theorem reach_hard (i : Int) (w : World) : Calls Try.prog 75 #[.agg #[.int .i64 i]] w fun e w' => e = .returned (.tuple #[.int .i64 ((0 : Nat) : Int), .bool false]) ∧ Below w.heap.size w w' := by
  go_enter Try.func75, Try.ntmps75
  go_wp2_with fail
  go_ret2
  exact ⟨rfl, (Below.refl _ w).alloc (Nat.le_refl _) _⟩
theorem ret_ib {a b : Nat} {c d : Bool} (h1 : a = b) (h2 : c = d) : Ending.returned (.tuple #[.int .i64 (a : Int), .bool c]) = .returned (.tuple #[.int .i64 (b : Int), .bool d]) := by rw [h1, h2]
/-- A job's reach is told. -/
def ReachOk (ok : Nat → Prop) (j : Jb) : Prop := flJ j ≤ 1000000 → cntJ j ≤ 1000000 → ∀ (v : Value) (w : World), (∀ k, ok k → k < w.heap.size) → RJ ok w j v → ∃ (T : TypeId) (K : FuncId) (u : Value), v = .iface T u ∧ (∀ W, (method 222 T u "tracery/layout.reach").run Try.prog W = .ok (K, u) W) ∧ (∀ W, (callFunc K #[u]).run Try.prog W = .ok (.enter K #[u]) W) ∧
  Calls Try.prog K #[u] w fun e w' => e = .returned (.tuple #[.int .i64 ((rcJ j).1 : Int), .bool (rcJ j).2]) ∧ Below w.heap.size w w'
structure RcRel (w : World) (js : List Jb) (res : Nat × Bool) (k n : Nat) (wr : World) : Prop where
  below : Below w.heap.size w wr
  le : k ≤ js.length
  sum : n + flJL (js.drop k) ≤ 1000000
  eq : (if (rcJL (js.drop k)).2 then (n + (rcJL (js.drop k)).1, true) else (n + (rcJL (js.drop k)).1, false)) = res
set_option maxHeartbeats 1000000 in
set_option maxRecDepth 100000 in
theorem reach_list {ok : Nat → Prop} (js : List Jb) (ih : ∀ j ∈ js, ReachOk ok j) (hv : flJL js ≤ 1000000) (hc : cntJL js ≤ 1000000) (a : Option Addr) (c : Nat) (w : World) (hok : ∀ k, ok k → k < w.heap.size) (h : RJK ok w a js) :
    Calls Try.prog 82 #[.slice a js.length c] w fun e w' => e = .returned (.tuple #[.int .i64 ((rcJL js).1 : Int), .bool (rcJL js).2]) ∧ Below w.heap.size w w' := by
  have hl := h.1
  have HK := hide h
  have HI := hide ih
  have HV := hide hv
  have HC := hide hc
  have HOK := hide hok
  clear h ih hok
  go_enter Try.func82, Try.ntmps82
  go_wp2_with fail
  go_loopg [4, 11] js.length (fun u v4 v11 wr => ∃ k n : Nat, Hid (u = js.length - k) ∧ v11 = .int .i64 (k : Int) ∧ v4 = .int .i64 (n : Int) ∧ Hid (RcRel w js (rcJL js) k n wr))
  case atStart => exact ⟨0, 0, rfl, rfl, rfl, ⟨Below.refl _ _, Nat.zero_le _, by simpa using hv, by rw [List.drop_zero]; split <;> simp [*] <;> (ext <;> simp [*])⟩⟩
  case round =>
    obtain ⟨k, n, hu, rfl, rfl, hr⟩ := hrel
    have hle := hr.out.le
    by_cases hlt : k < js.length
    · have hlti : (k : Int) < (js.length : Int) := by omega
      obtain ⟨b, o, v, rfl, hob, hbl, e0, hx⟩ := HK.out.get k hlt
      have hbelow := hr.out.below
      have e0' := (hbelow.cell (p := ⟨b, o + k, none⟩) hbl).trans e0
      have hbl' := Nat.lt_of_lt_of_le hbl hbelow.size
      have hfk := flJL_mem (List.getElem_mem hlt)
      have hck := cntJL_mem (List.getElem_mem hlt)
      obtain ⟨T, K, u, rfl, hm, hcf, hcl⟩ := HI.out js[k] (List.getElem_mem hlt) (by omega) (by omega) v wr (fun i hi => Nat.lt_of_lt_of_le (HOK.out i hi) hbelow.size) (hx.step hbelow HOK.out)
      have HCL := hide hcl
      have HBL := hide hbelow
      have hsum := hr.out.sum
      have heq := hr.out.eq
      rw [List.drop_eq_getElem_cons hlt, flJL] at hsum
      rw [List.drop_eq_getElem_cons hlt, rcJL] at heq
      have hrf := rc_fl js[k]
      obtain ⟨m, hm1⟩ : ∃ m, (rcJ js[k]).1 = m := ⟨_, rfl⟩
      rw [hm1] at hrf heq HCL
      have HSUM := hide hsum
      have hmn : (n : Int) + (m : Int) ≤ 1000000 := by omega
      have HM := hide hrf
      clear e0 hx hcl hbelow hm1 hsum hrf
      cases hb : (rcJ js[k]).2 with
      | true =>
        rw [hb] at heq HCL
        have HEQ := hide heq
        clear heq hb
        go_wp2_with fail
        refine HCL.out.mono ?_
        rintro e w2 ⟨rfl, h2⟩
        have HB2 := hide (HBL.out.trans (h2.mono HBL.out.size))
        clear h2
        go_wp2_with fail
        go_roundg (js.length - (k + 1))
        case measure => rw [hu.out]; omega
        case rel =>
          refine ⟨k + 1, n + m, rfl, rfl, by go_num, ⟨HB2.out, hlt, by have := HSUM.out; have := HM.out; omega, ?_⟩⟩
          rw [← HEQ.out]
          simp only [if_true]
          split <;> simp [*, Nat.add_assoc]
      | false =>
        rw [hb] at heq HCL
        have HEQ := hide heq
        clear heq hb
        go_wp2_with fail
        refine HCL.out.mono ?_
        rintro e w2 ⟨rfl, h2⟩
        have HB2 := hide (HBL.out.trans (h2.mono HBL.out.size))
        clear h2
        go_wp2_with fail
        go_ret2
        have h := HEQ.out
        simp only [Bool.false_eq_true, if_false] at h
        rw [← h]
        exact ⟨by go_num, HB2.out⟩
    · obtain rfl : k = js.length := by omega
      have heq := hr.out.eq
      rw [List.drop_length, rcJL] at heq
      simp only [if_true, Nat.add_zero] at heq
      go_wp2_with fail
      go_ret2
      rw [← heq]
      exact ⟨rfl, hr.out.below⟩

set_option maxHeartbeats 1000000 in
theorem reach_many {ok : Nat → Prop} (js : List Jb) (g : Bool) (ih : ∀ j ∈ js, ReachOk ok j) (hv : flJL js ≤ 1000000) (hc : cntJL js ≤ 1000000) (a : Option Addr) (c : Nat) (w : World) (hok : ∀ k, ok k → k < w.heap.size) (h : RJK ok w a js) :
    Calls Try.prog 78 #[.agg #[.slice a js.length c, .bool g]] w fun e w' => e = .returned (.tuple #[.int .i64 ((rcJL js).1 : Int), .bool (rcJL js).2]) ∧ Below w.heap.size w w' := by
  have hl := h.1
  have hb1 := (Below.refl w.heap.size w).alloc (Nat.le_refl _) (.cells #[.slice a js.length c, .bool g] 81)
  have HX := hide (reach_list js ih hv hc a c _ (fun k hk => Nat.lt_of_lt_of_le (hok k hk) hb1.size) (RJK.map hb1.size (fun _ h => h) (fun b c hb e => (hb1.block b (hok b hb)).trans e) h))
  have HB := hide hb1
  clear h ih hok hb1 hv hc
  go_enter Try.func78, Try.ntmps78
  go_wp2_with fail
  refine HX.out.mono ?_
  rintro e w2 ⟨rfl, h2⟩
  have HB2 := hide (below_next HB.out h2)
  clear h2
  go_wp2_with fail
  go_ret2
  exact ⟨rfl, HB2.out⟩
theorem reach_any (ok : Nat → Prop) : ∀ j, ReachOk ok j := by
  refine Jb.induct ?_ ?_ ?_ ?_
  · intro s hv hc v w hok h
    rw [RJ] at h
    obtain ⟨rfl, hs⟩ := h
    exact ⟨75, 57, _, rfl, fun _ => by kernel_rfl, fun _ => by kernel_rfl, by rw [rcJ]; exact reach_text s w hs⟩
  · intro s i f hv hc v w hok h
    rw [RJ] at h
    obtain ⟨rfl, hs⟩ := h
    exact ⟨77, 61, _, rfl, fun _ => by kernel_rfl, fun _ => by kernel_rfl, by rw [rcJ]; exact reach_line s i f w⟩
  · intro i hv hc v w hok h
    rw [RJ] at h
    obtain rfl := h
    exact ⟨79, 75, _, rfl, fun _ => by kernel_rfl, fun _ => by kernel_rfl, by rw [rcJ]; exact reach_hard i w⟩
  · intro ks g ih hv hc v w hok h
    rw [RJ] at h
    obtain ⟨a, c, rfl, h1, h2⟩ := h
    rw [flJ] at hv
    rw [cntJ] at hc
    exact ⟨81, 78, _, rfl, fun _ => by kernel_rfl, fun _ => by kernel_rfl, by rw [rcJ]; exact reach_many ks g ih hv (by omega) a c w hok ⟨h1, h2⟩⟩

/-- A job's flat text is told. -/
def FlatOk (ok : Nat → Prop) (j : Jb) : Prop := flJ j ≤ 1000000 → cntJ j ≤ 1000000 → ∀ (v : Value) (w : World), (∀ k, ok k → k < w.heap.size) → RJ ok w j v → ∃ (T : TypeId) (K : FuncId) (u : Value), v = .iface T u ∧ (∀ W, (method 222 T u "tracery/layout.flat").run Try.prog W = .ok (K, u) W) ∧ (∀ W, (callFunc K #[u]).run Try.prog W = .ok (.enter K #[u]) W) ∧
  Calls Try.prog K #[u] w fun e w' => e = .returned (.tuple #[.int .i64 (flJ j : Int), .bool (hdJ j)]) ∧ Below w.heap.size w w'
structure FlRel (w : World) (A : Array Value) (js : List Jb) (k n : Nat) (h : Bool) (wr : World) : Prop where
  below : Below w.heap.size w wr
  le : k ≤ js.length
  sum : n + flJL (js.drop k) = flJL js
  hd : (h || hdJL (js.drop k)) = hdJL js
set_option maxHeartbeats 1000000 in
set_option maxRecDepth 100000 in
theorem flat_many {ok : Nat → Prop} (js : List Jb) (g : Bool) (ih : ∀ j ∈ js, FlatOk ok j) (hv : flJL js ≤ 1000000) (hc : cntJL js ≤ 1000000) (a : Option Addr) (c : Nat) (w : World) (hok : ∀ k, ok k → k < w.heap.size) (h : RJK ok w a js) :
    Calls Try.prog 77 #[.agg #[.slice a js.length c, .bool g]] w fun e w' => e = .returned (.tuple #[.int .i64 (flJL js : Int), .bool (hdJL js)]) ∧ Below w.heap.size w w' := by
  have hl := h.1
  have HK := hide h
  have HI := hide ih
  have HV := hide hv
  have HC := hide hc
  have HOK := hide hok
  clear h ih hok
  go_enter Try.func77, Try.ntmps77
  go_wp2_with fail
  go_loopg [4, 5, 13] js.length (fun u v4 v5 v13 wr => ∃ (k n : Nat) (h : Bool), Hid (u = js.length - k) ∧ v13 = .int .i64 (k : Int) ∧ v4 = .int .i64 (n : Int) ∧ v5 = .bool h ∧ Hid (FlRel w #[.slice a js.length c, .bool g] js k n h wr))
  case atStart => exact ⟨0, 0, false, rfl, rfl, rfl, rfl, ⟨(Below.refl _ _).alloc (Nat.le_refl _) _, Nat.zero_le _, by simp, by simp⟩⟩
  case round =>
    obtain ⟨k, n, hh, hu, rfl, rfl, rfl, hr⟩ := hrel
    have hle := hr.out.le
    by_cases hlt : k < js.length
    · have hlti : (k : Int) < (js.length : Int) := by omega
      obtain ⟨b, o, v, rfl, hob, hbl, e0, hx⟩ := HK.out.get k hlt
      have hbelow := hr.out.below
      have e0' := (hbelow.cell (p := ⟨b, o + k, none⟩) hbl).trans e0
      have hbl' := Nat.lt_of_lt_of_le hbl hbelow.size
      have hfk := flJL_mem (List.getElem_mem hlt)
      have hck := cntJL_mem (List.getElem_mem hlt)
      obtain ⟨T, K, u, rfl, hm, hcf, hcl⟩ := HI.out js[k] (List.getElem_mem hlt) (by omega) (by omega) v wr (fun i hi => Nat.lt_of_lt_of_le (HOK.out i hi) hbelow.size) (hx.step hbelow HOK.out)
      have HCL := hide hcl
      have HBL := hide hbelow
      have hsum := hr.out.sum
      have heq := hr.out.hd
      rw [List.drop_eq_getElem_cons hlt, flJL] at hsum
      rw [List.drop_eq_getElem_cons hlt, hdJL] at heq
      obtain ⟨m, hm1⟩ : ∃ m, flJ js[k] = m := ⟨_, rfl⟩
      obtain ⟨hb, hb1⟩ : ∃ m, hdJ js[k] = m := ⟨_, rfl⟩
      rw [hm1, hb1] at HCL
      rw [hm1] at hsum
      rw [hb1] at heq
      have HSUM := hide hsum
      have HEQ := hide heq
      have hmn : (n : Int) + (m : Int) ≤ 1000000 := by omega
      clear e0 hx hcl hbelow hm1 hb1 hsum heq hfk hck
      cases hh with
      | true =>
        go_wp2_with fail
        refine HCL.out.mono ?_
        rintro e w2 ⟨rfl, h2⟩
        have HB2 := hide (HBL.out.trans (h2.mono HBL.out.size))
        clear h2
        go_wp2_with fail
        go_roundg (js.length - (k + 1))
        case measure => rw [hu.out]; omega
        case rel => exact ⟨k + 1, n + m, true, rfl, rfl, by go_num, rfl, ⟨HB2.out, hlt, by have := HSUM.out; omega, by have h := HEQ.out; simpa using h⟩⟩
      | false =>
        go_wp2_with fail
        refine HCL.out.mono ?_
        rintro e w2 ⟨rfl, h2⟩
        have HB2 := hide (HBL.out.trans (h2.mono HBL.out.size))
        clear h2
        go_wp2_with fail
        go_roundg (js.length - (k + 1))
        case measure => rw [hu.out]; omega
        case rel => exact ⟨k + 1, n + m, hb, rfl, rfl, by go_num, rfl, ⟨HB2.out, hlt, by have := HSUM.out; omega, by have h := HEQ.out; simpa using h⟩⟩
    · obtain rfl : k = js.length := by omega
      have hsum := hr.out.sum
      have heq := hr.out.hd
      rw [List.drop_length] at hsum heq
      rw [flJL, Nat.add_zero] at hsum
      rw [hdJL, Bool.or_false] at heq
      go_wp2_with fail
      go_ret2
      rw [← hsum, ← heq]
      exact ⟨rfl, hr.out.below⟩
theorem flat_any (ok : Nat → Prop) : ∀ j, FlatOk ok j := by
  refine Jb.induct ?_ ?_ ?_ ?_
  · intro s hv hc v w hok h
    rw [RJ] at h
    obtain ⟨rfl, hs⟩ := h
    exact ⟨75, 56, _, rfl, fun _ => by kernel_rfl, fun _ => by kernel_rfl, by rw [flJ, hdJ]; exact flat_text s w hs⟩
  · intro s i f hv hc v w hok h
    rw [RJ] at h
    obtain ⟨rfl, hs⟩ := h
    exact ⟨77, 60, _, rfl, fun _ => by kernel_rfl, fun _ => by kernel_rfl, by rw [flJ, hdJ]; exact flat_line s i f w hs⟩
  · intro i hv hc v w hok h
    rw [RJ] at h
    obtain rfl := h
    exact ⟨79, 74, _, rfl, fun _ => by kernel_rfl, fun _ => by kernel_rfl, by rw [flJ, hdJ]; exact flat_hard i w⟩
  · intro ks g ih hv hc v w hok h
    rw [RJ] at h
    obtain ⟨a, c, rfl, h1, h2⟩ := h
    rw [flJ] at hv
    rw [cntJ] at hc
    exact ⟨81, 77, _, rfl, fun _ => by kernel_rfl, fun _ => by kernel_rfl, by rw [flJ, hdJ]; exact flat_many ks g ih hv (by omega) a c w hok ⟨h1, h2⟩⟩
end Go.Proofs.Ytcmhlfnmjpmjhaa
