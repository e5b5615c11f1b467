/- The walks of slices.IndexFunc and ContainsFunc, at symbols. -/
import Derived.Test.YtalicfpcmcbdbaaZMapF
import Derived.Shelf.GgClosure.Gives
set_option linter.unusedVariables false
set_option linter.unusedSimpArgs false
set_option linter.unnecessarySimpa false
set_option linter.deprecated false
namespace Go.Proofs.Ytalicfpcmcbdbaa
open Go.RowKit

/-- The first place from k on at which p holds; -1: none. -/
def fIdx {α : Type} (p : α → Bool) : List α → Nat → Int
  | [], _ => -1
  | x :: xs, k => if p x then (k : Int) else fIdx p xs (k + 1)
theorem fIdx_hit {α : Type} (p : α → Bool) : ∀ (l : List α) (s k : Nat) (hk : k < l.length), (∀ j (h : j < l.length), j < k → p l[j] = false) → p l[k] = true → fIdx p l s = ((s + k : Nat) : Int)
  | [], s, k, hk, _, _ => absurd hk (by simp)
  | x :: xs, s, 0, hk, _, hp => by
    have hp : p x = true := hp
    rw [fIdx, if_pos hp]; rfl
  | x :: xs, s, k + 1, hk, hf, hp => by
    have h0 : p x = false := hf 0 (by simp) (by omega)
    rw [fIdx, h0]
    rw [if_neg (by decide), fIdx_hit p xs (s + 1) k (by simpa using hk) (fun j h hj => by have := hf (j + 1) (by simpa using h) (by omega); simpa using this) (by simpa using hp)]
    omega
theorem fIdx_miss {α : Type} (p : α → Bool) : ∀ (l : List α) (s : Nat), (∀ j (h : j < l.length), p l[j] = false) → fIdx p l s = -1
  | [], s, _ => rfl
  | x :: xs, s, hf => by
    have h0 : p x = false := hf 0 (by simp)
    rw [fIdx, h0]
    rw [if_neg (by decide)]
    exact fIdx_miss p xs (s + 1) (fun j h => by have := hf (j + 1) (by simpa using h); simpa using this)
theorem fIdx_any {α : Type} (p : α → Bool) : ∀ (l : List α) (s : Nat), decide (0 ≤ fIdx p l s) = l.any p
  | [], s => by rfl
  | x :: xs, s => by
    rw [fIdx, List.any_cons]
    cases h : p x
    · rw [if_neg (by decide), fIdx_any p xs (s + 1)]; rfl
    · rw [if_pos rfl]
      have : (0 : Int) ≤ (s : Int) := by omega
      simp
set_option maxHeartbeats 4000000 in
set_option maxRecDepth 100000 in
theorem idxSym (g : Nat) (lb : Array Value) (eg : ∀ args w, (callFunc g args).run Try.prog w = .ok (.enter g args) w) (p : Sy → Bool) (l : List Sy) (a : Option Addr) (c : Nat) (w : World) (hr : Row SyAt 8 l a w)
    (hp : ∀ W x b o, x ∈ l → Below w.heap.size w W → b < W.heap.size → SyAt x b o W → Calls Try.prog g (#[.agg #[.int .i64 x.kind, .string x.text, .int .u64 (x.set.w0 : Int), .int .u64 (x.set.w1 : Int), .int .u64 (x.set.w2 : Int), .int .u64 (x.set.w3 : Int), .string x.name, .string x.sep]] ++ lb) W fun e w' => e = .returned (.bool (p x)) ∧ Below w.heap.size w w') :
    Calls Try.prog 88 #[.slice a l.length c, .func (.func g) #[] lb] w fun e w' => e = .returned (.int .i64 (fIdx p l 0)) ∧ Below w.heap.size w w' := by
  have HP := hide hp
  have HR := hide hr
  have hln : l.length ≤ 140737488351232 := hr.1
  clear hp hr
  go_enter Try.func88, Try.ntmps88
  go_wp2_with fail
  go_loopg [5, 8] l.length (fun u v5 v8 wr => ∃ k : Nat, Hid (u = l.length - k) ∧ v8 = .int .i64 (k : Int) ∧ Hid (k ≤ l.length ∧ Below w.heap.size w wr ∧ ∀ j (h : j < l.length), j < k → p l[j] = false))
  case atStart => exact ⟨0, hide rfl, rfl, hide ⟨Nat.zero_le _, Below.refl _ _, fun _ _ h => absurd h (Nat.not_lt_zero _)⟩⟩
  case round =>
    obtain ⟨k, hu, rfl, hh⟩ := hrel
    have hkl := hh.out.1
    by_cases hlt : k < l.length
    · have hlti : (k : Int) < (l.length : Int) := by omega
      obtain ⟨b, o, rfl, hb, hat⟩ := (HR.out.below SyAt.stable hh.out.2.1).get hlt
      have hx := hat k hlt
      have HC := hide (HP.out wr l[k] b (o + k * 8) (List.getElem_mem hlt) hh.out.2.1 hb hx)
      obtain ⟨x, hxe⟩ : ∃ x, l[k] = x := ⟨_, rfl⟩
      have HX := hide hxe
      rw [hxe] at hx HC
      clear hxe hat
      obtain ⟨e0, e1, e2, e3, e4, e5, e6, e7⟩ := hx.cells
      clear hx
      cases hq : p x with
      | true =>
        rw [hq] at HC
        have HQ := hide hq
        clear hq
        go_wp2_with (go_at_fn g; refine HC.out.mono ?_; rintro e w' ⟨rfl, hb'⟩)
        go_ret
        refine ⟨ret_int ?_, hb'⟩
        rw [fIdx_hit p l 0 k hlt hh.out.2.2 (by rw [HX.out]; exact HQ.out)]
        omega
      | false =>
        rw [hq] at HC
        have HQ := hide hq
        clear hq
        go_wp2_with (go_at_fn g; refine HC.out.mono ?_; rintro e w' ⟨rfl, hb'⟩)
        go_roundg (l.length - (k + 1))
        case measure => rw [hu.out]; omega
        case rel =>
          refine ⟨k + 1, hide rfl, by go_num, hide ⟨hlt, hb', fun j h hj => ?_⟩⟩
          by_cases e : j = k
          · subst e
            rw [HX.out]
            exact HQ.out
          · exact hh.out.2.2 j h (by omega)
    · have hlti : ¬ (k : Int) < (l.length : Int) := by omega
      go_wp2_with fail
      go_ret
      refine ⟨ret_int ?_, hh.out.2.1⟩
      rw [fIdx_miss p l 0 (fun j h => hh.out.2.2 j h (by omega))]
set_option maxHeartbeats 4000000 in
set_option maxRecDepth 100000 in
theorem conSym (g : Nat) (lb : Array Value) (eg : ∀ args w, (callFunc g args).run Try.prog w = .ok (.enter g args) w) (p : Sy → Bool) (l : List Sy) (a : Option Addr) (c : Nat) (w : World) (hr : Row SyAt 8 l a w)
    (hp : ∀ W x b o, x ∈ l → Below w.heap.size w W → b < W.heap.size → SyAt x b o W → Calls Try.prog g (#[.agg #[.int .i64 x.kind, .string x.text, .int .u64 (x.set.w0 : Int), .int .u64 (x.set.w1 : Int), .int .u64 (x.set.w2 : Int), .int .u64 (x.set.w3 : Int), .string x.name, .string x.sep]] ++ lb) W fun e w' => e = .returned (.bool (p x)) ∧ Below w.heap.size w w') :
    Calls Try.prog 70 #[.slice a l.length c, .func (.func g) #[] lb] w fun e w' => e = .returned (.bool (l.any p)) ∧ Below w.heap.size w w' := by
  have HC := hide (idxSym g lb eg p l a c w hr hp)
  have HA := hide (fIdx_any p l 0)
  clear hr hp
  go_enter Try.func70, Try.ntmps70
  go_wp2_with (go_at_call 88; refine HC.out.mono ?_; rintro e w' ⟨rfl, hb⟩)
  go_ret
  exact ⟨ret_bool HA.out, hb⟩
end Go.Proofs.Ytalicfpcmcbdbaa
