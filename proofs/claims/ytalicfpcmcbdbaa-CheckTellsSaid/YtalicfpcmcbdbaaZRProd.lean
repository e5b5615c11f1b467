/- The walks of slices.IndexFunc and ContainsFunc, at symbols. The walk of rightProd. -/
import Derived.Test.YtalicfpcmcbdbaaZMapF
import Derived.Shelf.GgClosure.Gives
import Derived.Test.YtalicfpcmcbdbaaZRSym
set_option linter.unusedVariables false
set_option linter.unusedSimpArgs false
set_option linter.unnecessarySimpa false
set_option linter.deprecated false
namespace Go.Proofs.Ytalicfpcmcbdbaa
open Go.RowKit

/-- The first place from k on at which p holds; -1: none. -/
def fIdx {α : Type} (p : α → Bool) : List α → Nat → Int
  | [], _ => -1
  | x :: xs, k => if p x then (k : Int) else fIdx p xs (k + 1)
theorem fIdx_hit {α : Type} (p : α → Bool) : ∀ (l : List α) (s k : Nat) (hk : k < l.length), (∀ j (h : j < l.length), j < k → p l[j] = false) → p l[k] = true → fIdx p l s = ((s + k : Nat) : Int)
  | [], s, k, hk, _, _ => absurd hk (by simp)
  | x :: xs, s, 0, hk, _, hp => by
    have hp : p x = true := hp
    rw [fIdx, if_pos hp]; rfl
  | x :: xs, s, k + 1, hk, hf, hp => by
    have h0 : p x = false := hf 0 (by simp) (by omega)
    rw [fIdx, h0]
    rw [if_neg (by decide), fIdx_hit p xs (s + 1) k (by simpa using hk) (fun j h hj => by have := hf (j + 1) (by simpa using h) (by omega); simpa using this) (by simpa using hp)]
    omega
theorem fIdx_miss {α : Type} (p : α → Bool) : ∀ (l : List α) (s : Nat), (∀ j (h : j < l.length), p l[j] = false) → fIdx p l s = -1
  | [], s, _ => rfl
  | x :: xs, s, hf => by
    have h0 : p x = false := hf 0 (by simp)
    rw [fIdx, h0]
    rw [if_neg (by decide)]
    exact fIdx_miss p xs (s + 1) (fun j h => by have := hf (j + 1) (by simpa using h); simpa using this)
theorem fIdx_any {α : Type} (p : α → Bool) : ∀ (l : List α) (s : Nat), decide (0 ≤ fIdx p l s) = l.any p
  | [], s => by rfl
  | x :: xs, s => by
    rw [fIdx, List.any_cons]
    cases h : p x
    · rw [if_neg (by decide), fIdx_any p xs (s + 1)]; rfl
    · rw [if_pos rfl]
      have : (0 : Int) ≤ (s : Int) := by omega
      simp
set_option maxHeartbeats 4000000 in
set_option maxRecDepth 100000 in
theorem idxSym (g : Nat) (lb : Array Value) (eg : ∀ args w, (callFunc g args).run Try.prog w = .ok (.enter g args) w) (p : Sy → Bool) (l : List Sy) (a : Option Addr) (c : Nat) (w : World) (hr : Row SyAt 8 l a w)
    (hp : ∀ W x b o, x ∈ l → Below w.heap.size w W → b < W.heap.size → SyAt x b o W → Calls Try.prog g (#[.agg #[.int .i64 x.kind, .string x.text, .int .u64 (x.set.w0 : Int), .int .u64 (x.set.w1 : Int), .int .u64 (x.set.w2 : Int), .int .u64 (x.set.w3 : Int), .string x.name, .string x.sep]] ++ lb) W fun e w' => e = .returned (.bool (p x)) ∧ Below w.heap.size w w') :
    Calls Try.prog 88 #[.slice a l.length c, .func (.func g) #[] lb] w fun e w' => e = .returned (.int .i64 (fIdx p l 0)) ∧ Below w.heap.size w w' := by
  have HP := hide hp
  have HR := hide hr
  have hln : l.length ≤ 140737488351232 := hr.1
  clear hp hr
  go_enter Try.func88, Try.ntmps88
  go_wp2_with fail
  go_loopg [5, 8] l.length (fun u v5 v8 wr => ∃ k : Nat, Hid (u = l.length - k) ∧ v8 = .int .i64 (k : Int) ∧ Hid (k ≤ l.length ∧ Below w.heap.size w wr ∧ ∀ j (h : j < l.length), j < k → p l[j] = false))
  case atStart => exact ⟨0, hide rfl, rfl, hide ⟨Nat.zero_le _, Below.refl _ _, fun _ _ h => absurd h (Nat.not_lt_zero _)⟩⟩
  case round =>
    obtain ⟨k, hu, rfl, hh⟩ := hrel
    have hkl := hh.out.1
    by_cases hlt : k < l.length
    · have hlti : (k : Int) < (l.length : Int) := by omega
      obtain ⟨b, o, rfl, hb, hat⟩ := (HR.out.below SyAt.stable hh.out.2.1).get hlt
      have hx := hat k hlt
      have HC := hide (HP.out wr l[k] b (o + k * 8) (List.getElem_mem hlt) hh.out.2.1 hb hx)
      obtain ⟨x, hxe⟩ : ∃ x, l[k] = x := ⟨_, rfl⟩
      have HX := hide hxe
      rw [hxe] at hx HC
      clear hxe hat
      obtain ⟨e0, e1, e2, e3, e4, e5, e6, e7⟩ := hx.cells
      clear hx
      cases hq : p x with
      | true =>
        rw [hq] at HC
        have HQ := hide hq
        clear hq
        go_wp2_with (go_at_fn g; refine HC.out.mono ?_; rintro e w' ⟨rfl, hb'⟩)
        go_ret
        refine ⟨ret_int ?_, hb'⟩
        rw [fIdx_hit p l 0 k hlt hh.out.2.2 (by rw [HX.out]; exact HQ.out)]
        omega
      | false =>
        rw [hq] at HC
        have HQ := hide hq
        clear hq
        go_wp2_with (go_at_fn g; refine HC.out.mono ?_; rintro e w' ⟨rfl, hb'⟩)
        go_roundg (l.length - (k + 1))
        case measure => rw [hu.out]; omega
        case rel =>
          refine ⟨k + 1, hide rfl, by go_num, hide ⟨hlt, hb', fun j h hj => ?_⟩⟩
          by_cases e : j = k
          · subst e
            rw [HX.out]
            exact HQ.out
          · exact hh.out.2.2 j h (by omega)
    · have hlti : ¬ (k : Int) < (l.length : Int) := by omega
      go_wp2_with fail
      go_ret
      refine ⟨ret_int ?_, hh.out.2.1⟩
      rw [fIdx_miss p l 0 (fun j h => hh.out.2.2 j h (by omega))]
set_option maxHeartbeats 4000000 in
set_option maxRecDepth 100000 in
theorem conSym (g : Nat) (lb : Array Value) (eg : ∀ args w, (callFunc g args).run Try.prog w = .ok (.enter g args) w) (p : Sy → Bool) (l : List Sy) (a : Option Addr) (c : Nat) (w : World) (hr : Row SyAt 8 l a w)
    (hp : ∀ W x b o, x ∈ l → Below w.heap.size w W → b < W.heap.size → SyAt x b o W → Calls Try.prog g (#[.agg #[.int .i64 x.kind, .string x.text, .int .u64 (x.set.w0 : Int), .int .u64 (x.set.w1 : Int), .int .u64 (x.set.w2 : Int), .int .u64 (x.set.w3 : Int), .string x.name, .string x.sep]] ++ lb) W fun e w' => e = .returned (.bool (p x)) ∧ Below w.heap.size w w') :
    Calls Try.prog 70 #[.slice a l.length c, .func (.func g) #[] lb] w fun e w' => e = .returned (.bool (l.any p)) ∧ Below w.heap.size w w' := by
  have HC := hide (idxSym g lb eg p l a c w hr hp)
  have HA := hide (fIdx_any p l 0)
  clear hr hp
  go_enter Try.func70, Try.ntmps70
  go_wp2_with (go_at_call 88; refine HC.out.mono ?_; rintro e w' ⟨rfl, hb⟩)
  go_ret
  exact ⟨ret_bool HA.out, hb⟩
end Go.Proofs.Ytalicfpcmcbdbaa

set_option linter.unusedVariables false
set_option linter.unusedSimpArgs false
set_option linter.unnecessarySimpa false
set_option linter.deprecated false
namespace Go.Proofs.Ytalicfpcmcbdbaa
open Go.RowKit

theorem notSym_any (x : Sy) (hx : x.ok) (w : World) : Calls Try.prog 100 #[.agg #[.int .i64 x.kind, .string x.text, .int .u64 (x.set.w0 : Int), .int .u64 (x.set.w1 : Int), .int .u64 (x.set.w2 : Int), .int .u64 (x.set.w3 : Int), .string x.name, .string x.sep]] w fun e w' => e = .returned (.bool (!rightSyB x)) ∧ Below w.heap.size w w' := by
  have HB := hide ((Below.refl w.heap.size w).alloc (Nat.le_refl _) (.cells #[.int .i64 x.kind, .string x.text, .int .u64 (x.set.w0 : Int), .int .u64 (x.set.w1 : Int), .int .u64 (x.set.w2 : Int), .int .u64 (x.set.w3 : Int), .string x.name, .string x.sep] 61))
  have HS := hide (fun W => rightSym_any x hx W)
  clear hx
  go_enter Try.func100, Try.ntmps100
  go_wp2_with (go_at_call 101; refine (HS.out _).mono ?_; rintro e w' ⟨rfl, hb⟩)
  go_ret
  exact ⟨rfl, below_next HB.out hb⟩
def rightPdB (p : Pd) : Bool :=
  namedB p.sort false && namedB p.cons true && decide (1 ≤ p.syms.length) && decide (p.syms.length ≤ 12) && !(p.lex && p.bracket || !p.lex && (p.bracket != emp p.cons)) && p.syms.all rightSyB
theorem any_not {α : Type} (f : α → Bool) (l : List α) : l.all f = !(l.any fun x => !f x) := by
  induction l with
  | nil => rfl
  | cons x xs ih => rw [List.all_cons, List.any_cons, ih]; cases f x <;> simp
set_option maxHeartbeats 4000000 in
set_option maxRecDepth 100000 in
theorem rightProd_any (p : Pd) (a : Option Addr) (c : Nat) (w : World) (hp : p.ok) (hr : Row SyAt 8 p.syms a w) : Calls Try.prog 85 #[.agg #[.bool p.lex, .string p.sort, .string p.cons, .bool p.bracket, .slice a p.syms.length c]] w fun e w' => e = .returned (.bool (rightPdB p)) ∧ Below w.heap.size w w' := by
  obtain ⟨lex, sort, cons, br, syms⟩ := p
  have hs1 : short sort := hp.s
  have hs2 : short cons := hp.c
  have HB := hide ((Below.refl w.heap.size w).alloc (Nat.le_refl _) (.cells #[.bool lex, .string sort, .string cons, .bool br, .slice a syms.length c] 38))
  have HBL := hide (Blk.new w #[.bool lex, .string sort, .string cons, .bool br, .slice a syms.length c] 38)
  have HC := hide (fun W (h : Below w.heap.size w W) => conSym 100 #[] (by intro args w; exact enters_of Try.func100 (by kernel_rfl) rfl args w) (fun x => !rightSyB x) syms a c W (hr.below SyAt.stable h) (fun W2 x b o hx hW _ hat => (notSym_any x hat.1 W2).mono (fun e w' h => ⟨h.1, below_next hW h.2⟩)))
  clear hp hr
  cases hn1 : namedB sort false
  · skip
    have HR := hide (show rightPdB ⟨lex, sort, cons, br, syms⟩ = false by unfold rightPdB; simp [hn1])
    go_enter Try.func85, Try.ntmps85
    go_wp2_with (first | (go_at_call 84; refine (named_any _ _ _ (by first | exact hs1 | exact hs2)).mono ?_; rintro e w1 ⟨rfl, hb⟩; replace HB := hide (below_next HB.out hb); replace HBL := hide (HBL.out.below hb); have g0 := HBL.out.cell 0; have g1 := HBL.out.cell 1; have g2 := HBL.out.cell 2; have g3 := HBL.out.cell 3; have g4 := HBL.out.cell 4; clear hb) | (go_at_call 70; refine (HC.out _ (Below.trans (HB.out) (Below.refl _ _))).mono ?_; rintro e w2 ⟨rfl, hb⟩))
    go_ret
    first | exact ⟨by rw [HR.out]; rfl, HB.out⟩ | exact ⟨by rw [HR.out], below_next HB.out hb⟩ | exact ⟨by rw [HR.out]; rfl, below_next HB.out hb⟩
  cases hn2 : namedB cons true
  · skip
    have HR := hide (show rightPdB ⟨lex, sort, cons, br, syms⟩ = false by unfold rightPdB; simp [hn1, hn2])
    go_enter Try.func85, Try.ntmps85
    go_wp2_with (first | (go_at_call 84; refine (named_any _ _ _ (by first | exact hs1 | exact hs2)).mono ?_; rintro e w1 ⟨rfl, hb⟩; replace HB := hide (below_next HB.out hb); replace HBL := hide (HBL.out.below hb); have g0 := HBL.out.cell 0; have g1 := HBL.out.cell 1; have g2 := HBL.out.cell 2; have g3 := HBL.out.cell 3; have g4 := HBL.out.cell 4; clear hb) | (go_at_call 70; refine (HC.out _ (Below.trans (HB.out) (Below.refl _ _))).mono ?_; rintro e w2 ⟨rfl, hb⟩))
    go_ret
    first | exact ⟨by rw [HR.out]; rfl, HB.out⟩ | exact ⟨by rw [HR.out], below_next HB.out hb⟩ | exact ⟨by rw [HR.out]; rfl, below_next HB.out hb⟩
  by_cases hl0 : syms.length = 0
  · have hl1 : ((syms.length : Int) == 0) = true := by simpa using hl0
    have HL0 := hide hl0
    clear hl0
    have HR := hide (show rightPdB ⟨lex, sort, cons, br, syms⟩ = false by unfold rightPdB; simp [HL0.out])
    go_enter Try.func85, Try.ntmps85
    go_wp2_with (first | (go_at_call 84; refine (named_any _ _ _ (by first | exact hs1 | exact hs2)).mono ?_; rintro e w1 ⟨rfl, hb⟩; replace HB := hide (below_next HB.out hb); replace HBL := hide (HBL.out.below hb); have g0 := HBL.out.cell 0; have g1 := HBL.out.cell 1; have g2 := HBL.out.cell 2; have g3 := HBL.out.cell 3; have g4 := HBL.out.cell 4; clear hb) | (go_at_call 70; refine (HC.out _ (Below.trans (HB.out) (Below.refl _ _))).mono ?_; rintro e w2 ⟨rfl, hb⟩))
    go_ret
    first | exact ⟨by rw [HR.out]; rfl, HB.out⟩ | exact ⟨by rw [HR.out], below_next HB.out hb⟩ | exact ⟨by rw [HR.out]; rfl, below_next HB.out hb⟩
  have hl1 : ((syms.length : Int) == 0) = false := by simpa using hl0
  have HL0 := hide hl0
  by_cases hl12 : syms.length ≤ 12
  case neg =>
    have hl2 : (12 : Int) < (syms.length : Int) := by omega
    have HL1 := hide hl12
    clear hl0 hl12
    have HR := hide (show rightPdB ⟨lex, sort, cons, br, syms⟩ = false by unfold rightPdB; simp [HL0.out, HL1.out])
    go_enter Try.func85, Try.ntmps85
    go_wp2_with (first | (go_at_call 84; refine (named_any _ _ _ (by first | exact hs1 | exact hs2)).mono ?_; rintro e w1 ⟨rfl, hb⟩; replace HB := hide (below_next HB.out hb); replace HBL := hide (HBL.out.below hb); have g0 := HBL.out.cell 0; have g1 := HBL.out.cell 1; have g2 := HBL.out.cell 2; have g3 := HBL.out.cell 3; have g4 := HBL.out.cell 4; clear hb) | (go_at_call 70; refine (HC.out _ (Below.trans (HB.out) (Below.refl _ _))).mono ?_; rintro e w2 ⟨rfl, hb⟩))
    go_ret
    first | exact ⟨by rw [HR.out]; rfl, HB.out⟩ | exact ⟨by rw [HR.out], below_next HB.out hb⟩ | exact ⟨by rw [HR.out]; rfl, below_next HB.out hb⟩
  have hl2 : ¬ (12 : Int) < (syms.length : Int) := by omega
  have hl3 : decide ((12 : Int) < (syms.length : Int)) = false := decide_eq_false hl2
  have HL1 := hide hl12
  have HL2 := hide (show 1 ≤ syms.length by omega)
  clear hl0 hl12
  have HRR := hide (fun lx bx (bv : Bool) (hz : emp cons = bv) => (show rightPdB ⟨lx, sort, cons, bx, syms⟩ = (!(lx && bx || !lx && (bx != bv)) && syms.all rightSyB) by unfold rightPdB; simp only [hn1, hn2, hz, decide_eq_true HL2.out, decide_eq_true HL1.out, Bool.true_and]))
  rcases emp_or cons with ⟨b, z, y, v, x⟩ | ⟨b, z, y, v, x⟩
  · cases lex
    · cases br
      · have HR := hide (HRR.out false false true z.out)
        clear HRR
        go_enter Try.func85, Try.ntmps85
        go_wp2_with (first | (go_at_call 84; refine (named_any _ _ _ (by first | exact hs1 | exact hs2)).mono ?_; rintro e w1 ⟨rfl, hb⟩; replace HB := hide (below_next HB.out hb); replace HBL := hide (HBL.out.below hb); have g0 := HBL.out.cell 0; have g1 := HBL.out.cell 1; have g2 := HBL.out.cell 2; have g3 := HBL.out.cell 3; have g4 := HBL.out.cell 4; clear hb) | (go_at_call 70; refine (HC.out _ (Below.trans (HB.out) (Below.refl _ _))).mono ?_; rintro e w2 ⟨rfl, hb⟩))
        go_ret
        exact ⟨by rw [HR.out]; rfl, HB.out⟩
      · have HR := hide (HRR.out false true true z.out)
        clear HRR
        go_enter Try.func85, Try.ntmps85
        go_wp2_with (first | (go_at_call 84; refine (named_any _ _ _ (by first | exact hs1 | exact hs2)).mono ?_; rintro e w1 ⟨rfl, hb⟩; replace HB := hide (below_next HB.out hb); replace HBL := hide (HBL.out.below hb); have g0 := HBL.out.cell 0; have g1 := HBL.out.cell 1; have g2 := HBL.out.cell 2; have g3 := HBL.out.cell 3; have g4 := HBL.out.cell 4; clear hb) | (go_at_call 70; refine (HC.out _ (Below.trans (HB.out) (Below.refl _ _))).mono ?_; rintro e w2 ⟨rfl, hb⟩))
        go_ret
        exact ⟨by rw [HR.out, any_not]; rfl, below_next HB.out hb⟩
    · cases br
      · have HR := hide (HRR.out true false true z.out)
        clear HRR
        go_enter Try.func85, Try.ntmps85
        go_wp2_with (first | (go_at_call 84; refine (named_any _ _ _ (by first | exact hs1 | exact hs2)).mono ?_; rintro e w1 ⟨rfl, hb⟩; replace HB := hide (below_next HB.out hb); replace HBL := hide (HBL.out.below hb); have g0 := HBL.out.cell 0; have g1 := HBL.out.cell 1; have g2 := HBL.out.cell 2; have g3 := HBL.out.cell 3; have g4 := HBL.out.cell 4; clear hb) | (go_at_call 70; refine (HC.out _ (Below.trans (HB.out) (Below.refl _ _))).mono ?_; rintro e w2 ⟨rfl, hb⟩))
        go_ret
        exact ⟨by rw [HR.out, any_not]; rfl, below_next HB.out hb⟩
      · have HR := hide (HRR.out true true true z.out)
        clear HRR
        go_enter Try.func85, Try.ntmps85
        go_wp2_with (first | (go_at_call 84; refine (named_any _ _ _ (by first | exact hs1 | exact hs2)).mono ?_; rintro e w1 ⟨rfl, hb⟩; replace HB := hide (below_next HB.out hb); replace HBL := hide (HBL.out.below hb); have g0 := HBL.out.cell 0; have g1 := HBL.out.cell 1; have g2 := HBL.out.cell 2; have g3 := HBL.out.cell 3; have g4 := HBL.out.cell 4; clear hb) | (go_at_call 70; refine (HC.out _ (Below.trans (HB.out) (Below.refl _ _))).mono ?_; rintro e w2 ⟨rfl, hb⟩))
        go_ret
        exact ⟨by rw [HR.out]; rfl, HB.out⟩
  · cases lex
    · cases br
      · have HR := hide (HRR.out false false false z.out)
        clear HRR
        go_enter Try.func85, Try.ntmps85
        go_wp2_with (first | (go_at_call 84; refine (named_any _ _ _ (by first | exact hs1 | exact hs2)).mono ?_; rintro e w1 ⟨rfl, hb⟩; replace HB := hide (below_next HB.out hb); replace HBL := hide (HBL.out.below hb); have g0 := HBL.out.cell 0; have g1 := HBL.out.cell 1; have g2 := HBL.out.cell 2; have g3 := HBL.out.cell 3; have g4 := HBL.out.cell 4; clear hb) | (go_at_call 70; refine (HC.out _ (Below.trans (HB.out) (Below.refl _ _))).mono ?_; rintro e w2 ⟨rfl, hb⟩))
        go_ret
        exact ⟨by rw [HR.out, any_not]; rfl, below_next HB.out hb⟩
      · have HR := hide (HRR.out false true false z.out)
        clear HRR
        go_enter Try.func85, Try.ntmps85
        go_wp2_with (first | (go_at_call 84; refine (named_any _ _ _ (by first | exact hs1 | exact hs2)).mono ?_; rintro e w1 ⟨rfl, hb⟩; replace HB := hide (below_next HB.out hb); replace HBL := hide (HBL.out.below hb); have g0 := HBL.out.cell 0; have g1 := HBL.out.cell 1; have g2 := HBL.out.cell 2; have g3 := HBL.out.cell 3; have g4 := HBL.out.cell 4; clear hb) | (go_at_call 70; refine (HC.out _ (Below.trans (HB.out) (Below.refl _ _))).mono ?_; rintro e w2 ⟨rfl, hb⟩))
        go_ret
        exact ⟨by rw [HR.out]; rfl, HB.out⟩
    · cases br
      · have HR := hide (HRR.out true false false z.out)
        clear HRR
        go_enter Try.func85, Try.ntmps85
        go_wp2_with (first | (go_at_call 84; refine (named_any _ _ _ (by first | exact hs1 | exact hs2)).mono ?_; rintro e w1 ⟨rfl, hb⟩; replace HB := hide (below_next HB.out hb); replace HBL := hide (HBL.out.below hb); have g0 := HBL.out.cell 0; have g1 := HBL.out.cell 1; have g2 := HBL.out.cell 2; have g3 := HBL.out.cell 3; have g4 := HBL.out.cell 4; clear hb) | (go_at_call 70; refine (HC.out _ (Below.trans (HB.out) (Below.refl _ _))).mono ?_; rintro e w2 ⟨rfl, hb⟩))
        go_ret
        exact ⟨by rw [HR.out, any_not]; rfl, below_next HB.out hb⟩
      · have HR := hide (HRR.out true true false z.out)
        clear HRR
        go_enter Try.func85, Try.ntmps85
        go_wp2_with (first | (go_at_call 84; refine (named_any _ _ _ (by first | exact hs1 | exact hs2)).mono ?_; rintro e w1 ⟨rfl, hb⟩; replace HB := hide (below_next HB.out hb); replace HBL := hide (HBL.out.below hb); have g0 := HBL.out.cell 0; have g1 := HBL.out.cell 1; have g2 := HBL.out.cell 2; have g3 := HBL.out.cell 3; have g4 := HBL.out.cell 4; clear hb) | (go_at_call 70; refine (HC.out _ (Below.trans (HB.out) (Below.refl _ _))).mono ?_; rintro e w2 ⟨rfl, hb⟩))
        go_ret
        exact ⟨by rw [HR.out]; rfl, HB.out⟩
end Go.Proofs.Ytalicfpcmcbdbaa
