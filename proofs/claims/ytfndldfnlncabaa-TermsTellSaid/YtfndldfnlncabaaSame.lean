/- The walks of terms.Same and of slices.EqualFunc. -/
import Derived.Test.YtfndldfnlncabaaPlain
import Derived.Test.YtfndldfnlncabaaMem
import Derived.Deep.LoopGhost
import Derived.Shelf.Bytes.SlSmallAll
import Derived.Laws.IdiomStrings
set_option linter.unnecessarySimpa false
set_option linter.deprecated false
namespace Go.Proofs.Ytfndldfnlncabaa
open Go.RowKit
set_option linter.unusedVariables false
set_option linter.unusedSimpArgs false

theorem two_boxes0 (w : World) (o1 o2 : Obj) : Below w.heap.size w ((w.alloc o1).alloc o2) := ((Below.refl _ w).alloc (Nat.le_refl _) _).alloc (by simp) _

mutual
/-- Are terms the same? -/
def sameB : Tm → Tm → Bool
  | .mk k c t ks, U => decide (k = U.kind) && decide (c = U.cons) && decide (t = U.text) && sameL ks U.kids
def sameL : List Tm → List Tm → Bool
  | [], [] => true
  | x :: xs, y :: ys => sameB x y && sameL xs ys
  | _, _ => false
end
mutual
theorem sameB_eq : ∀ (T U : Tm), sameB T U = true ↔ T = U
  | .mk k c t ks, .mk k' c' t' ks' => by
    rw [sameB, Bool.and_eq_true, Bool.and_eq_true, Bool.and_eq_true]
    have h := sameL_eq ks ks'
    constructor
    · rintro ⟨⟨⟨h1, h2⟩, h3⟩, h4⟩
      have h1 := of_decide_eq_true h1
      have h2 := of_decide_eq_true h2
      have h3 := of_decide_eq_true h3
      have h4 := h.1 h4
      simp only [Tm.kind, Tm.cons, Tm.text] at h1 h2 h3
      rw [h1, h2, h3, h4]
    · intro e
      injection e with h1 h2 h3 h4
      exact ⟨⟨⟨decide_eq_true h1, decide_eq_true h2⟩, decide_eq_true h3⟩, h.2 h4⟩
theorem sameL_eq : ∀ (ks ls : List Tm), sameL ks ls = true ↔ ks = ls
  | [], [] => by simp [sameL]
  | [], y :: ys => by simp [sameL]
  | x :: xs, [] => by simp [sameL]
  | x :: xs, y :: ys => by
    rw [sameL, Bool.and_eq_true, sameB_eq x y, sameL_eq xs ys, List.cons.injEq]
end
theorem sameL_len : ∀ (ks ls : List Tm), ks.length ≠ ls.length → sameL ks ls = false
  | [], [], h => absurd rfl h
  | [], y :: ys, _ => by simp [sameL]
  | x :: xs, [], _ => by simp [sameL]
  | x :: xs, y :: ys, h => by
    rw [sameL, sameL_len xs ys (by simpa using h), Bool.and_false]

/-- A text laid as a string. -/
theorem RB.str {w : World} {a : Option Addr} {t : List UInt8} (h : RB w a t) (n c : Nat) (hn : n = t.length) : (convert 22 9 (.slice a n c)).run Try.prog w = .ok (.string ⟨t.toArray⟩) w := by
  subst hn
  by_cases h0 : t = []
  · subst h0
    exact run_convert_bytes_zero w 22 5 Try.underlying22 Try.underlying5 a c 9 Try.underlying9
  · obtain ⟨b, o, rfl, hb, hr⟩ := h.get h0
    refine run_convert_bytes_back w 22 9 5 ⟨b, o, none⟩ c t Try.underlying22 Try.underlying5 Try.underlying9 fun j hj => ?_
    have h1 := hr j hj
    rw [List.getElem?_eq_getElem hj, Option.getD_some] at h1
    rw [← h1]
    unfold Addr.add
    split
    · rename_i e; subst e; rfl
    · rfl

/-- The contract of Same, at a term. -/
def SameOk (T : Tm) : Prop := ∀ (U : Tm) (v u : Value) (w : World), RT w T v → RT w U u → Calls Try.prog 20 #[v, u] w fun e w' => e = .returned (.bool (sameB T U)) ∧ Below w.heap.size w w'

structure EqRel (w : World) (res : Bool) (ks ls : List Tm) (k : Nat) (w2 : World) : Prop where
  below : Below w.heap.size w w2
  le : k ≤ ks.length
  eq : sameL (ks.drop k) (ls.drop k) = res

set_option maxHeartbeats 2000000 in
set_option maxRecDepth 100000 in
theorem equal_any (ks ls : List Tm) (ih : ∀ x ∈ ks, SameOk x) (a : Option Addr) (c : Nat) (b : Option Addr) (d : Nat) (w : World) (hk : RK w a ks) (hl : RK w b ls) (m n : Nat) (hm : m = ks.length) (hn : n = ls.length) :
    Calls Try.prog 44 #[.slice a m c, .slice b n d, .func (.func 20) #[] #[]] w fun e w' => e = .returned (.bool (sameL ks ls)) ∧ Below w.heap.size w w' := by
  have HK := hide hk
  have HL := hide hl
  have HI := hide ih
  have hk1 := hk.1
  have hl1 := hl.1
  rw [← hm] at hk1
  rw [← hn] at hl1
  have HM := hide hm
  have HN := hide hn
  clear hk hl ih
  by_cases hmn : m = n
  · subst hmn
    obtain ⟨res, hres⟩ : ∃ res, sameL ks ls = res := ⟨_, rfl⟩
    rw [hres]
    have HE := hide hres
    clear hm hn hres
    go_enter Try.func44, Try.ntmps44
    go_wp2_with fail
    go_loopg [17] m (fun u v17 wr => ∃ k : Nat, Hid (u = m - k) ∧ v17 = .int .i64 (k : Int) ∧ Hid (EqRel w res ks ls k wr))
    case atStart => exact ⟨0, rfl, rfl, hide ⟨Below.refl _ _, Nat.zero_le _, HE.out⟩⟩
    case round =>
      obtain ⟨k, hu, rfl, hr⟩ := hrel
      have hle := hr.out.le
      by_cases hlt : k < m
      · have hlti : (k : Int) < (m : Int) := by omega
        have hk2 : k < ks.length := by have := HM.out; omega
        have hl2 : k < ls.length := by have := HN.out; omega
        have heq := hr.out.eq
        rw [List.drop_eq_getElem_cons hk2, List.drop_eq_getElem_cons hl2, sameL] at heq
        obtain ⟨bk, ok, x1, k1, x3, k3, rfl, hbl, e0, e1, e2, e3, hx⟩ := HK.out.get k hk2
        obtain ⟨bl, ol, y1, l1, y3, l3, rfl, hbl2, f0, f1, f2, f3, hy⟩ := HL.out.get k hl2
        have hbelow := hr.out.below
        have e0' := (hbelow.cell (p := ⟨bk, ok + k * 4, none⟩) hbl).trans e0
        have e1' := (hbelow.cell (p := ⟨bk, ok + k * 4 + 1, none⟩) hbl).trans e1
        have e2' := (hbelow.cell (p := ⟨bk, ok + k * 4 + 2, none⟩) hbl).trans e2
        have e3' := (hbelow.cell (p := ⟨bk, ok + k * 4 + 3, none⟩) hbl).trans e3
        have f0' := (hbelow.cell (p := ⟨bl, ol + k * 4, none⟩) hbl2).trans f0
        have f1' := (hbelow.cell (p := ⟨bl, ol + k * 4 + 1, none⟩) hbl2).trans f1
        have f2' := (hbelow.cell (p := ⟨bl, ol + k * 4 + 2, none⟩) hbl2).trans f2
        have f3' := (hbelow.cell (p := ⟨bl, ol + k * 4 + 3, none⟩) hbl2).trans f3
        have hbl' := Nat.lt_of_lt_of_le hbl hbelow.size
        have hbl2' := Nat.lt_of_lt_of_le hbl2 hbelow.size
        have hws := hbelow.size
        have HX := hide (fun W (h : Below w.heap.size w W) => HI.out ks[k] (List.getElem_mem hk2) ls[k] _ _ W (RT.below h hx) (RT.below h hy))
        have HEQ := hide heq
        have HB := hide hbelow
        clear hx hy e0 e1 e2 e3 f0 f1 f2 f3 hbelow heq
        go_wp2_with fail
        refine (HX.out _ ((HB.out.alloc hws _).alloc (by simp; omega) _)).mono ?_
        rintro e w2 ⟨rfl, h2⟩
        have HB2 := hide (((HB.out.alloc hws (.cells #[.int .i64 ks[k].kind, .string ks[k].cons, .slice x1 ks[k].text.length k1, .slice x3 ks[k].kids.length k3] 25)).alloc (by simp; omega) (.cells #[.int .i64 ls[k].kind, .string ls[k].cons, .slice y1 ls[k].text.length l1, .slice y3 ls[k].kids.length l3] 25)).trans (h2.mono (by simp; omega)))
        clear h2
        cases hs : sameB ks[k] ls[k] with
        | true =>
          have HQ := hide (show sameL (ks.drop (k + 1)) (ls.drop (k + 1)) = res from by have h := HEQ.out; rw [hs, Bool.true_and] at h; exact h)
          clear hs
          go_wp2_with fail
          go_roundg (m - (k + 1))
          case measure => rw [hu.out]; omega
          case rel => exact ⟨k + 1, rfl, rfl, hide ⟨HB2.out, by omega, HQ.out⟩⟩
        | false =>
          have HQ := hide (show false = res from by have h := HEQ.out; rw [hs, Bool.false_and] at h; exact h)
          clear hs
          go_wp2_with fail
          go_ret
          exact ⟨by have h := HQ.out; subst h; rfl, HB2.out⟩
      · have hlti : ¬ (k : Int) < (m : Int) := by omega
        have heq := hr.out.eq
        rw [List.drop_eq_nil_of_le (by have := HM.out; omega), List.drop_eq_nil_of_le (by have := HN.out; omega), sameL] at heq
        subst heq
        go_wp2_with fail
        go_ret
        exact ⟨rfl, hr.out.below⟩
  · have hmi : ((m : Int) == (n : Int)) = false := by simp; omega
    have hmi2 : ((m : Int) != (n : Int)) = true := by simp; omega
    have hmi3 : ¬ (m : Int) = (n : Int) := by omega
    rw [sameL_len ks ls (by omega)]
    clear hm hn
    go_enter Try.func44, Try.ntmps44
    go_wp2_with fail
    go_ret
    exact ⟨rfl, Below.refl _ _⟩

set_option maxHeartbeats 2000000 in
set_option maxRecDepth 100000 in
theorem same_any : ∀ T, SameOk T := by
  refine Tm.induct fun kd cs tx ks ih => ?_
  intro U v u w hT hU
  obtain ⟨ku, cu, tu, ls⟩ := U
  obtain ⟨a1, c1, a2, c2, rfl, _, _, ht1, hks⟩ := hT.open
  obtain ⟨b1, d1, b2, d2, rfl, _, _, ht2, hls⟩ := hU.open
  simp only [Tm.kind, Tm.cons, Tm.text, Tm.kids] at hks hls ht1 ht2 ⊢
  have HW := hide (fun o1 o2 => two_boxes0 w o1 o2)
  have HC := fun W (h : Below w.heap.size w W) m n hm hn => equal_any ks ls ih a2 c2 b2 d2 W (hks.below h) (hls.below h) m n hm hn
  have HS1 := fun W (h : Below w.heap.size w W) n hn => (ht1.below h).str n c1 hn
  have HS2 := fun W (h : Below w.heap.size w W) n hn => (ht2.below h).str n d1 hn
  rw [show sameB (.mk kd cs tx ks) (.mk ku cu tu ls) = (decide (kd = ku) && decide (cs = cu) && decide (tx = tu) && sameL ks ls) from by rw [sameB]; rfl]
  have hk1 := hks.1
  have hl1 := hls.1
  obtain ⟨m1, hm1⟩ : ∃ m, tx.length = m := ⟨_, rfl⟩
  obtain ⟨m2, hm2⟩ : ∃ m, tu.length = m := ⟨_, rfl⟩
  obtain ⟨n1, hn1⟩ : ∃ m, ks.length = m := ⟨_, rfl⟩
  obtain ⟨n2, hn2⟩ : ∃ m, ls.length = m := ⟨_, rfl⟩
  have hcv1 := HS1 ((w.alloc (.cells #[.int .i64 kd, .string cs, .slice a1 m1 c1, .slice a2 n1 c2] 25)).alloc (.cells #[.int .i64 ku, .string cu, .slice b1 m2 d1, .slice b2 n2 d2] 25)) (HW.out _ _) m1 hm1.symm
  have hcv2 := HS2 ((w.alloc (.cells #[.int .i64 kd, .string cs, .slice a1 m1 c1, .slice a2 n1 c2] 25)).alloc (.cells #[.int .i64 ku, .string cu, .slice b1 m2 d1, .slice b2 n2 d2] 25)) (HW.out _ _) m2 hm2.symm
  have HC2 := hide (HC _ (HW.out (.cells #[.int .i64 kd, .string cs, .slice a1 m1 c1, .slice a2 n1 c2] 25) (.cells #[.int .i64 ku, .string cu, .slice b1 m2 d1, .slice b2 n2 d2] 25)) n1 n2 hn1.symm hn2.symm)
  rw [hm1, hn1, hm2, hn2]
  clear HC HS1 HS2 hks hls ht1 ht2 hT hU ih hm1 hm2 hn1 hn2
  by_cases h1 : kd = ku
  · rw [decide_eq_true h1, Bool.true_and]
    subst h1
    by_cases h2 : cs = cu
    · rw [decide_eq_true h2, Bool.true_and]
      subst h2
      by_cases h3 : tx = tu
      · rw [decide_eq_true h3, Bool.true_and]
        subst h3
        go_enter Try.func20, Try.ntmps20
        go_wp2_with fail
        refine HC2.out.mono ?_
        rintro e w1 ⟨rfl, h4⟩
        have HB := hide ((HW.out _ _).trans (h4.mono (by simp; omega)))
        clear h4
        go_wp2_with fail
        go_ret
        exact ⟨rfl, HB.out⟩
      · rw [decide_eq_false h3, Bool.false_and]
        go_enter Try.func20, Try.ntmps20
        go_wp2_with fail
        go_ret
        exact ⟨rfl, HW.out _ _⟩
    · rw [decide_eq_false h2, Bool.false_and, Bool.false_and]
      have h2' : ¬ cs.toList = cu.toList := fun e => h2 (by rw [ByteArray.toList_eq, ByteArray.toList_eq] at e; exact ByteArray.ext (Array.ext' e))
      clear h2
      go_enter Try.func20, Try.ntmps20
      go_wp2_with fail
      go_ret
      exact ⟨rfl, HW.out _ _⟩
  · rw [decide_eq_false h1, Bool.false_and, Bool.false_and, Bool.false_and]
    go_enter Try.func20, Try.ntmps20
    go_wp2_with fail
    go_ret
    exact ⟨rfl, HW.out _ _⟩
end Go.Proofs.Ytfndldfnlncabaa
