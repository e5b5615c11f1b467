/- The walks of terms.right and of what it calls: the same as a plain function on terms. -/
import Derived.Test.YtfndldfnlncabaaWords
namespace Go.Proofs.Ytfndldfnlncabaa
set_option linter.unnecessarySimpa false
set_option linter.deprecated false
open Go.RowKit
set_option linter.unusedVariables false
set_option linter.unusedSimpArgs false

/-- Is a term right, but for its kids? -/
def okB (k : Int) (c : List UInt8) (t : List UInt8) (n : Nat) : Bool :=
  if k = 1 then isNameL c && t.isEmpty
  else if k = 2 then c.isEmpty && decide (n = 0)
  else if k = 3 then c.isEmpty && t.isEmpty
  else if k = 4 then c.isEmpty && t.isEmpty && decide (n = 0)
  else if k = 5 then c.isEmpty && t.isEmpty && decide (n = 1)
  else false

/-- Is a term right, and no deeper than some levels? -/
def rightB : Nat → Tm → Bool
  | 0, _ => false
  | n + 1, .mk k c t ks => okB k c.data.toList t ks.length && ks.all (rightB n)

/-- Where the first term is of which p holds; -1: there is none. -/
def idx (p : Tm → Bool) (ks : List Tm) : Int := match ks.findIdx? p with | some i => i | none => -1

theorem idx_at (p : Tm → Bool) (ks : List Tm) (k : Nat) (hk : k < ks.length) (hall : ∀ i (h : i < ks.length), i < k → p ks[i] = false) (hp : p ks[k] = true) : idx p ks = k := by
  have : ks.findIdx? p = some k := by
    rw [List.findIdx?_eq_some_iff_getElem]
    exact ⟨hk, hp, fun j hj => by simp [hall j (by omega) hj]⟩
  unfold idx
  rw [this]
theorem idx_none (p : Tm → Bool) (ks : List Tm) (hall : ∀ i (h : i < ks.length), p ks[i] = false) : idx p ks = -1 := by
  have : ks.findIdx? p = none := by
    rw [List.findIdx?_eq_none_iff]
    intro x hx
    obtain ⟨i, h, rfl⟩ := List.getElem_of_mem hx
    exact hall i h
  unfold idx
  rw [this]

set_option maxHeartbeats 1000000 in
theorem index_any (p : Tm → Bool) (a : Option Addr) (c : Nat) (ks : List Tm) (lb : Nat) (w : World) (hk : RK w a ks)
    (hf : ∀ x ∈ ks, ∀ v W, Below w.heap.size w W → RT W x v → Calls Try.prog 61 #[v, .pointer (some ⟨lb, 0, none⟩)] W fun e w' => e = .returned (.bool (p x)) ∧ Below W.heap.size W w') :
    Calls Try.prog 71 #[.slice a ks.length c, .func (.func 61) #[] #[.pointer (some ⟨lb, 0, none⟩)]] w fun e w' => e = .returned (.int .i64 (idx p ks)) ∧ Below w.heap.size w w' := by
  have HK := hide hk
  have HF := hide hf
  have hlen := hk.1
  clear hk hf
  go_enter Try.func71, Try.ntmps71
  go_wp2_with fail
  go_loopw [5, 8] (fun _ v8 wr => ∃ k : Nat, v8 = .int .i64 k ∧ k ≤ ks.length ∧ Hid (∀ i (h : i < ks.length), i < k → p ks[i] = false) ∧ Below w.heap.size w wr) (fun _ v8 _ => ks.length - (intOf v8).toNat)
  case atStart => exact ⟨0, rfl, Nat.zero_le _, fun _ _ h => absurd h (Nat.not_lt_zero _), Below.refl _ _⟩
  case round =>
    obtain ⟨k, rfl, hkl, hall, hb⟩ := hrel
    by_cases hlt : k < ks.length
    · have HX := hide (HF.out ks[k] (List.getElem_mem hlt))
      obtain ⟨b, o, a1, c1, a2, c2, rfl, hbl, h0, h1, h2, h3, hx⟩ := (RK.below HK.out hb).get k hlt
      have hx' := hide hx
      clear hx
      cases hp : p ks[k]
      · go_wp2_with (go_at_call 61; refine (HX.out _ _ hb hx'.out).mono ?_; rintro e w' ⟨rfl, hb'⟩)
        go_roundw
        case rel => exact ⟨k + 1, by go_num, by omega, fun i h hi => if e : i = k then by subst e; exact hp else hall.out i h (by omega), below_next hb hb'⟩
        case measure => simp [intOf]; omega
      · go_wp2_with (go_at_call 61; refine (HX.out _ _ hb hx'.out).mono ?_; rintro e w' ⟨rfl, hb'⟩)
        go_ret
        exact ⟨ret_int (by rw [idx_at p ks k hlt hall.out hp]), below_next hb hb'⟩
    · go_wp2_with fail
      go_ret
      exact ⟨ret_int (by rw [idx_none p ks fun i h => hall.out i h (by omega)]), hb⟩

theorem idx_any (p : Tm → Bool) (ks : List Tm) : decide (0 ≤ idx p ks) = ks.any p := by
  unfold idx
  cases h : ks.findIdx? p with
  | none =>
    rw [List.findIdx?_eq_none_iff] at h
    rw [Bool.eq_iff_iff]
    simpa using h
  | some i =>
    rw [List.findIdx?_eq_some_iff_getElem] at h
    obtain ⟨hi, hp, _⟩ := h
    rw [Bool.eq_iff_iff]
    simp only [decide_eq_true_eq, List.any_eq_true]
    exact ⟨fun _ => ⟨ks[i], List.getElem_mem hi, hp⟩, fun _ => by omega⟩

set_option maxHeartbeats 1000000 in
theorem contains_any (p : Tm → Bool) (a : Option Addr) (c : Nat) (ks : List Tm) (lb : Nat) (w : World) (hk : RK w a ks)
    (hf : ∀ x ∈ ks, ∀ v W, Below w.heap.size w W → RT W x v → Calls Try.prog 61 #[v, .pointer (some ⟨lb, 0, none⟩)] W fun e w' => e = .returned (.bool (p x)) ∧ Below W.heap.size W w') :
    Calls Try.prog 60 #[.slice a ks.length c, .func (.func 61) #[] #[.pointer (some ⟨lb, 0, none⟩)]] w fun e w' => e = .returned (.bool (ks.any p)) ∧ Below w.heap.size w w' := by
  have HK := hide hk
  have HF := hide hf
  have hi := hide (idx_any p ks)
  clear hk hf
  go_enter Try.func60, Try.ntmps60
  go_wp2_with (go_at_call 71; refine (index_any p _ _ _ _ _ HK.out HF.out).mono ?_; rintro e w' ⟨rfl, hb⟩)
  go_ret
  exact ⟨ret_bool (by rw [← hi.out]), hb⟩

set_option maxHeartbeats 1000000 in
theorem closure_any (q : Bool) (T : Tm) (v : Value) (lb : Nat) (n : Int) (w : World) (hn : 1 ≤ n ∧ n ≤ 200) (ht : RT w T v) (hl : w.cell? ⟨lb, 0, none⟩ = some (.int .i64 n)) (hlb : lb < w.heap.size)
    (ih : ∀ W, Below w.heap.size w W → Calls Try.prog 43 #[v, .int .i64 (n - 1)] W fun e w' => e = .returned (.bool q) ∧ Below W.heap.size W w') :
    Calls Try.prog 61 #[v, .pointer (some ⟨lb, 0, none⟩)] w fun e w' => e = .returned (.bool (!q)) ∧ Below w.heap.size w w' := by
  obtain ⟨a1, c1, a2, c2, rfl, hk, hc, hb, hr⟩ := ht.open
  obtain ⟨hn1, hn2⟩ := hn
  have IH := hide ih
  clear ht ih hk hc hb hr
  go_enter Try.func61, Try.ntmps61
  go_wp2_with (go_at_call 43; refine (IH.out _ ((Below.refl _ _).alloc (Nat.le_refl _) _)).mono ?_; rintro e w' ⟨rfl, hb⟩)
  go_ret
  exact ⟨rfl, below_next ((Below.refl _ _).alloc (Nat.le_refl _) _) hb⟩

theorem kids_any (n : Nat) (hn : n + 1 ≤ 200) (ih : n ≤ 200 → ∀ (T : Tm) (v : Value) (w : World), RT w T v → Calls Try.prog 43 #[v, .int .i64 (n : Int)] w fun e w' => e = .returned (.bool (rightB n T)) ∧ Below w.heap.size w w')
    (a : Option Addr) (c : Nat) (ks : List Tm) (lb : Nat) (W : World) (m : Nat) (hm : m = ks.length) (hk : RK W a ks) (hl : W.cell? ⟨lb, 0, none⟩ = some (.int .i64 ((n : Int) + 1))) (hlb : lb < W.heap.size) :
    Calls Try.prog 60 #[.slice a m c, .func (.func 61) #[] #[.pointer (some ⟨lb, 0, none⟩)]] W fun e w' => e = .returned (.bool (ks.any fun x => !rightB n x)) ∧ Below W.heap.size W w' := by
  subst hm
  refine contains_any (fun x => !rightB n x) a c ks lb W hk fun x _ v W' hb hx => ?_
  refine closure_any _ x v lb ((n : Int) + 1) W' (by omega) hx ((hb.cell (p := ⟨lb, 0, none⟩) hlb).trans hl) (Nat.lt_of_lt_of_le hlb hb.size) fun W2 hb2 => ?_
  rw [show ((n : Int) + 1 - 1) = n from by omega]
  exact ih (by omega) x v W2 (hx.below hb2)

open Classical in
theorem okB_walk (k : Int) (c : ByteArray) (t : List UInt8) (n : Nat) : okB k c.data.toList t n =
    (if k = 1 then isNameL c.data.toList && decide (t = []) else if k = 2 then decide (c.toList = []) && decide (n = 0) else if k = 3 then decide (c.toList = []) && decide (t = [])
     else if k = 4 then decide (c.toList = []) && decide (t = []) && decide (n = 0) else if k = 5 then decide (c.toList = []) && decide (t = []) && decide (n = 1) else false) := by
  have h : ∀ l : List UInt8, l.isEmpty = decide (l = []) := fun l => by cases l <;> simp
  rw [ByteArray.toList_eq]
  simp only [okB, h]
  repeat' split
  all_goals congr
theorem rightB_succ (n : Nat) (k : Int) (c : ByteArray) (t : List UInt8) (ks : List Tm) : rightB (n + 1) (.mk k c t ks) = (okB k c.data.toList t ks.length && !(ks.any fun x => !rightB n x)) := by
  rw [rightB, List.all_eq_not_any_not]

theorem two_new (w : World) (o1 o2 : Obj) : Below w.heap.size w ((w.alloc o1).alloc o2) := ((Below.refl _ w).alloc (Nat.le_refl _) _).alloc (by simp) _

/-- What is known of the search among the kids. -/
def KidsOk (n : Nat) (a2 : Option Addr) : Prop := ∀ (c' : Nat) (ks' : List Tm) (lb : Nat) (W : World) (m : Nat), m = ks'.length → RK W a2 ks' → W.cell? ⟨lb, 0, none⟩ = some (.int .i64 ((n : Int) + 1)) → lb < W.heap.size →
  Calls Try.prog 60 #[.slice a2 m c', .func (.func 61) #[] #[.pointer (some ⟨lb, 0, none⟩)]] W fun e w' => e = .returned (.bool (ks'.any fun x => !rightB n x)) ∧ Below W.heap.size W w'
theorem KidsOk.get {n : Nat} {a2 : Option Addr} (h : KidsOk n a2) (c' : Nat) (ks' : List Tm) (lb : Nat) (W : World) (m : Nat) (hm : m = ks'.length) (hk : RK W a2 ks') (hl : W.cell? ⟨lb, 0, none⟩ = some (.int .i64 ((n : Int) + 1))) (hlb : lb < W.heap.size) :
  Calls Try.prog 60 #[.slice a2 m c', .func (.func 61) #[] #[.pointer (some ⟨lb, 0, none⟩)]] W fun e w' => e = .returned (.bool (ks'.any fun x => !rightB n x)) ∧ Below W.heap.size W w' := h c' ks' lb W m hm hk hl hlb

set_option maxHeartbeats 4000000 in
theorem right_k1 (n : Nat) (hn : n + 1 ≤ 200) (c : ByteArray) (t : List UInt8) (ks : List Tm) (a1 a2 : Option Addr) (c1 c2 : Nat) (w : World) (HC : KidsOk n a2) (hc : c.size ≤ 140737488351232) (hr : RK w a2 ks) :
    Calls Try.prog 43 #[.agg #[.int .i64 1, .string c, .slice a1 t.length c1, .slice a2 ks.length c2], .int .i64 ((n : Int) + 1)] w fun e w' => e = .returned (.bool (rightB (n + 1) (.mk 1 c t ks))) ∧ Below w.heap.size w w' := by
  have HR := hide hr
  have hlen := hr.1
  clear hr
  have HS := hide (rightB_succ n 1 c t ks)
  have hmf : ∀ (fn : Fn) (first cap : Array Value) (w : World), (Instr.makeFunc fn first cap).run Try.prog w = .ok (.func fn first cap) w := fun _ _ _ _ => rfl
  cases hN : isNameL c.data.toList
  · go_enter Try.func43, Try.ntmps43
    go_wp2_with (first | (go_at_call 59; ((with_reducible refine (isName_any _ _ hc).mono ?_); rintro e w1 ⟨rfl, hb⟩; have HB := hide (below_next (two_new _ _ _) hb); obtain ⟨hcl, hfr⟩ := bcell hb; have hz := hb.size; clear hb)))
    all_goals (go_ret; refine ⟨ret_bool ?_, HB.out⟩; rw [HS.out, okB_walk]; simp [hN])
  · go_enter Try.func43, Try.ntmps43
    go_wp2_with (first | (go_at_call 59; ((with_reducible refine (isName_any _ _ hc).mono ?_); rintro e w1 ⟨rfl, hb⟩; have HB := hide (below_next (two_new _ _ _) hb); obtain ⟨hcl, hfr⟩ := bcell hb; have hz := hb.size; clear hb)) | (go_at_call 60; ((with_reducible refine (HC.get _ ks _ _ _ ?hm (HR.out.below HB.out) (by simp [hcl]) (by simp at hz; omega)).mono ?_); (case hm => first | rfl | simp [*]); rintro e w2 ⟨rfl, hb⟩; have HB2 := hide (below_next HB.out hb); clear hb)))
    all_goals (go_ret; refine ⟨ret_bool ?_, by first | exact HB2.out | exact HB.out⟩; rw [HS.out, okB_walk]; simp [*]; try (intros; omega))
set_option maxHeartbeats 4000000 in
theorem right_k2 (n : Nat) (hn : n + 1 ≤ 200) (c : ByteArray) (t : List UInt8) (ks : List Tm) (a1 a2 : Option Addr) (c1 c2 : Nat) (w : World) (HC : KidsOk n a2) (hc : c.size ≤ 140737488351232) (hr : RK w a2 ks) :
    Calls Try.prog 43 #[.agg #[.int .i64 2, .string c, .slice a1 t.length c1, .slice a2 ks.length c2], .int .i64 ((n : Int) + 1)] w fun e w' => e = .returned (.bool (rightB (n + 1) (.mk 2 c t ks))) ∧ Below w.heap.size w w' := by
  have HR := hide hr
  have hlen := hr.1
  clear hr
  have HS := hide (rightB_succ n 2 c t ks)
  have hmf : ∀ (fn : Fn) (first cap : Array Value) (w : World), (Instr.makeFunc fn first cap).run Try.prog w = .ok (.func fn first cap) w := fun _ _ _ _ => rfl
  go_enter Try.func43, Try.ntmps43
  go_wp2_with (first | (go_at_call 60; ((with_reducible refine (HC.get _ ks _ _ _ ?hm (HR.out.below (two_new _ _ _)) (by simp) (by simp)).mono ?_); (case hm => first | rfl | simp [*]); rintro e w2 ⟨rfl, hb⟩; have HB2 := hide (below_next (two_new _ _ _) hb); clear hb)))
  all_goals (go_ret; refine ⟨ret_bool ?_, by first | exact HB2.out | exact two_new _ _ _⟩; rw [HS.out, okB_walk]; simp [*]; try (intros; omega))
set_option maxHeartbeats 4000000 in
theorem right_k3 (n : Nat) (hn : n + 1 ≤ 200) (c : ByteArray) (t : List UInt8) (ks : List Tm) (a1 a2 : Option Addr) (c1 c2 : Nat) (w : World) (HC : KidsOk n a2) (hc : c.size ≤ 140737488351232) (hr : RK w a2 ks) :
    Calls Try.prog 43 #[.agg #[.int .i64 3, .string c, .slice a1 t.length c1, .slice a2 ks.length c2], .int .i64 ((n : Int) + 1)] w fun e w' => e = .returned (.bool (rightB (n + 1) (.mk 3 c t ks))) ∧ Below w.heap.size w w' := by
  have HR := hide hr
  have hlen := hr.1
  clear hr
  have HS := hide (rightB_succ n 3 c t ks)
  have hmf : ∀ (fn : Fn) (first cap : Array Value) (w : World), (Instr.makeFunc fn first cap).run Try.prog w = .ok (.func fn first cap) w := fun _ _ _ _ => rfl
  go_enter Try.func43, Try.ntmps43
  go_wp2_with (first | (go_at_call 60; ((with_reducible refine (HC.get _ ks _ _ _ ?hm (HR.out.below (two_new _ _ _)) (by simp) (by simp)).mono ?_); (case hm => first | rfl | simp [*]); rintro e w2 ⟨rfl, hb⟩; have HB2 := hide (below_next (two_new _ _ _) hb); clear hb)))
  all_goals (go_ret; refine ⟨ret_bool ?_, by first | exact HB2.out | exact two_new _ _ _⟩; rw [HS.out, okB_walk]; simp [*]; try (intros; omega))
set_option maxHeartbeats 4000000 in
theorem right_k4 (n : Nat) (hn : n + 1 ≤ 200) (c : ByteArray) (t : List UInt8) (ks : List Tm) (a1 a2 : Option Addr) (c1 c2 : Nat) (w : World) (HC : KidsOk n a2) (hc : c.size ≤ 140737488351232) (hr : RK w a2 ks) :
    Calls Try.prog 43 #[.agg #[.int .i64 4, .string c, .slice a1 t.length c1, .slice a2 ks.length c2], .int .i64 ((n : Int) + 1)] w fun e w' => e = .returned (.bool (rightB (n + 1) (.mk 4 c t ks))) ∧ Below w.heap.size w w' := by
  have HR := hide hr
  have hlen := hr.1
  clear hr
  have HS := hide (rightB_succ n 4 c t ks)
  have hmf : ∀ (fn : Fn) (first cap : Array Value) (w : World), (Instr.makeFunc fn first cap).run Try.prog w = .ok (.func fn first cap) w := fun _ _ _ _ => rfl
  go_enter Try.func43, Try.ntmps43
  go_wp2_with (first | (go_at_call 60; ((with_reducible refine (HC.get _ ks _ _ _ ?hm (HR.out.below (two_new _ _ _)) (by simp) (by simp)).mono ?_); (case hm => first | rfl | simp [*]); rintro e w2 ⟨rfl, hb⟩; have HB2 := hide (below_next (two_new _ _ _) hb); clear hb)))
  all_goals (go_ret; refine ⟨ret_bool ?_, by first | exact HB2.out | exact two_new _ _ _⟩; rw [HS.out, okB_walk]; simp [*]; try (intros; omega))
set_option maxHeartbeats 4000000 in
theorem right_k5 (n : Nat) (hn : n + 1 ≤ 200) (c : ByteArray) (t : List UInt8) (ks : List Tm) (a1 a2 : Option Addr) (c1 c2 : Nat) (w : World) (HC : KidsOk n a2) (hc : c.size ≤ 140737488351232) (hr : RK w a2 ks) :
    Calls Try.prog 43 #[.agg #[.int .i64 5, .string c, .slice a1 t.length c1, .slice a2 ks.length c2], .int .i64 ((n : Int) + 1)] w fun e w' => e = .returned (.bool (rightB (n + 1) (.mk 5 c t ks))) ∧ Below w.heap.size w w' := by
  have HR := hide hr
  have hlen := hr.1
  clear hr
  have HS := hide (rightB_succ n 5 c t ks)
  have hmf : ∀ (fn : Fn) (first cap : Array Value) (w : World), (Instr.makeFunc fn first cap).run Try.prog w = .ok (.func fn first cap) w := fun _ _ _ _ => rfl
  go_enter Try.func43, Try.ntmps43
  go_wp2_with (first | (go_at_call 60; ((with_reducible refine (HC.get _ ks _ _ _ ?hm (HR.out.below (two_new _ _ _)) (by simp) (by simp)).mono ?_); (case hm => first | rfl | simp [*]); rintro e w2 ⟨rfl, hb⟩; have HB2 := hide (below_next (two_new _ _ _) hb); clear hb)))
  all_goals (go_ret; refine ⟨ret_bool ?_, by first | exact HB2.out | exact two_new _ _ _⟩; rw [HS.out, okB_walk]; simp [*]; try (intros; omega))
set_option maxHeartbeats 4000000 in
theorem right_k0 (k : Int) (k1 : (k == 1) = false) (k2 : (k == 2) = false) (k3 : (k == 3) = false) (k4 : (k == 4) = false) (k5 : (k == 5) = false) (n : Nat) (hn : n + 1 ≤ 200) (c : ByteArray) (t : List UInt8) (ks : List Tm) (a1 a2 : Option Addr) (c1 c2 : Nat) (w : World) (HC : KidsOk n a2) (hc : c.size ≤ 140737488351232) (hr : RK w a2 ks) :
    Calls Try.prog 43 #[.agg #[.int .i64 k, .string c, .slice a1 t.length c1, .slice a2 ks.length c2], .int .i64 ((n : Int) + 1)] w fun e w' => e = .returned (.bool (rightB (n + 1) (.mk k c t ks))) ∧ Below w.heap.size w w' := by
  have HR := hide hr
  have hlen := hr.1
  clear hr
  have HS := hide (rightB_succ n k c t ks)
  have hmf : ∀ (fn : Fn) (first cap : Array Value) (w : World), (Instr.makeFunc fn first cap).run Try.prog w = .ok (.func fn first cap) w := fun _ _ _ _ => rfl
  go_enter Try.func43, Try.ntmps43
  go_wp2_with (first | (go_at_call 60; ((with_reducible refine (HC.get _ ks _ _ _ ?hm (HR.out.below (two_new _ _ _)) (by simp) (by simp)).mono ?_); (case hm => first | rfl | simp [*]); rintro e w2 ⟨rfl, hb⟩; have HB2 := hide (below_next (two_new _ _ _) hb); clear hb)))
  all_goals (go_ret; refine ⟨ret_bool ?_, two_new _ _ _⟩; rw [HS.out, okB_walk]; simp_all)

set_option maxHeartbeats 1000000 in
theorem right_any (n : Nat) : n ≤ 200 → ∀ (T : Tm) (v : Value) (w : World), RT w T v → Calls Try.prog 43 #[v, .int .i64 (n : Int)] w fun e w' => e = .returned (.bool (rightB n T)) ∧ Below w.heap.size w w' := by
  induction n with
  | zero =>
    intro _ T v w ht
    obtain ⟨a1, c1, a2, c2, rfl, hk, hc, hb, hr⟩ := ht.open
    clear ht hk hc hb hr
    rw [show ((0 : Nat) : Int) = 0 from rfl]
    go_enter Try.func43, Try.ntmps43
    go_wp2_with fail
    go_ret
    exact ⟨rfl, two_new _ _ _⟩
  | succ n ih =>
    intro hn T v w ht
    obtain ⟨a1, c1, a2, c2, rfl, hk, hc, hb, hr⟩ := ht.open
    have HC : KidsOk n a2 := fun c' ks' lb W m => kids_any n hn ih a2 c' ks' lb W m
    cases T with | mk k c t ks =>
    rw [show ((n + 1 : Nat) : Int) = (n : Int) + 1 from by omega]
    by_cases k1 : k = 1
    · subst k1; exact right_k1 n hn c t ks a1 a2 c1 c2 w HC hc hr
    by_cases k2 : k = 2
    · subst k2; exact right_k2 n hn c t ks a1 a2 c1 c2 w HC hc hr
    by_cases k3 : k = 3
    · subst k3; exact right_k3 n hn c t ks a1 a2 c1 c2 w HC hc hr
    by_cases k4 : k = 4
    · subst k4; exact right_k4 n hn c t ks a1 a2 c1 c2 w HC hc hr
    by_cases k5 : k = 5
    · subst k5; exact right_k5 n hn c t ks a1 a2 c1 c2 w HC hc hr
    exact right_k0 k (by simpa using k1) (by simpa using k2) (by simpa using k3) (by simpa using k4) (by simpa using k5) n hn c t ks a1 a2 c1 c2 w HC hc hr

set_option maxHeartbeats 400000 in
theorem Right_any (T : Tm) (v : Value) (w : World) (ht : RT w T v) : Calls Try.prog 18 #[v] w fun e w' => e = .returned (.bool (rightB 200 T)) ∧ Below w.heap.size w w' := by
  have hR : ∀ v' W, RT W T v' → Calls Try.prog 43 #[v', .int .i64 200] W fun e w' => e = .returned (.bool (rightB 200 T)) ∧ Below W.heap.size W w' := fun v' W => right_any 200 (Nat.le_refl _) T v' W
  obtain ⟨a1, c1, a2, c2, rfl, hk, hc, hb, hr⟩ := ht.open
  have HT := hide ht
  have HR := hide hR
  clear ht hR hk hc hb hr
  go_enter Try.func18, Try.ntmps18
  go_wp2_with (go_at_call 43; ((with_reducible refine (HR.out _ _ (HT.out.below ((Below.refl _ w).alloc (Nat.le_refl _) _))).mono ?_); rintro e w1 ⟨rfl, hb⟩))
  go_ret
  exact ⟨rfl, below_next ((Below.refl _ w).alloc (Nat.le_refl _) _) hb⟩
end Go.Proofs.Ytfndldfnlncabaa
