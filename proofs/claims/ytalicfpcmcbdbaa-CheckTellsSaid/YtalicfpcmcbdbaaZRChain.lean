/- The walk of rightChain. -/
import Derived.Test.YtalicfpcmcbdbaaZNames
set_option linter.unusedVariables false
set_option linter.unusedSimpArgs false
set_option linter.unnecessarySimpa false
set_option linter.deprecated false
namespace Go.Proofs.Ytalicfpcmcbdbaa
open Go.RowKit

theorem all_to {α : Type} (f : α → Bool) (l : List α) (h : ∀ j (h : j < l.length), f l[j] = true) : l.all f = true := by
  rw [List.all_eq_true]
  intro x hx
  obtain ⟨i, hi, rfl⟩ := List.mem_iff_getElem.1 hx
  exact h i hi
theorem all_not {α : Type} (f : α → Bool) (l : List α) (k : Nat) (hk : k < l.length) (h : f l[k] = false) : l.all f = false := by
  rw [Bool.eq_false_iff]
  intro e
  rw [List.all_eq_true.1 e _ (List.getElem_mem hk)] at h
  cases h
theorem all_next {α : Type} {f : α → Bool} {l : List α} {k : Nat} (h : ∀ j (h : j < l.length), j < k → f l[j] = true) {x : α} (hk : ∀ (hk : k < l.length), l[k] = x) (hx : f x = true) : ∀ j (h : j < l.length), j < k + 1 → f l[j] = true := by
  intro j hj hjk
  by_cases e : j = k
  · subst e; rw [hk hj]; exact hx
  · exact h j hj (by omega)
theorem none_to {α : Type} {f : α → Bool} {l : List α} {k : Nat} (h : k = 0) : ∀ j (h : j < l.length), j < k → f l[j] = true := fun j _ hj => by omega
def rightGpB (g : Gp) : Bool := decide (0 ≤ g.assoc) && decide (g.assoc ≤ 3) && decide (1 ≤ g.cons.length) && decide (g.cons.length ≤ 16) && g.cons.all (fun s => namedB s false)
def rightChB (l : List Gp) : Bool := l.all rightGpB && decide (1 ≤ l.length) && decide (l.length ≤ 16)
set_option maxHeartbeats 4000000 in
set_option maxRecDepth 100000 in
theorem rightChain_any (l : List Gp) (a : Option Addr) (c : Nat) (w : World) (hr : Row GpAt 2 l a w) : Calls Try.prog 86 #[.slice a l.length c] w fun e w' => e = .returned (.bool (rightChB l)) ∧ Below w.heap.size w w' := by
  have HR := hide hr
  have hln := hr.1
  have HN := hide (fun s W (h : short s) => named_any s false W h)
  clear hr
  go_enter Try.func86, Try.ntmps86
  go_wp2_with fail
  go_loopg [9] l.length (fun u v9 wr => ∃ k : Nat, Hid (u = l.length - k) ∧ v9 = .int .i64 (k : Int) ∧ Hid (k ≤ l.length ∧ Below w.heap.size w wr ∧ ∀ j (h : j < l.length), j < k → rightGpB l[j] = true))
  case atStart => exact ⟨0, hide rfl, rfl, hide ⟨Nat.zero_le _, Below.refl _ _, none_to rfl⟩⟩
  case round =>
    obtain ⟨k, hu, rfl, hh⟩ := hrel
    have hkl := hh.out.1
    by_cases hlt : k < l.length
    · have hlti : (k : Int) < (l.length : Int) := by omega
      obtain ⟨b, o, rfl, hb, hat⟩ := (HR.out.below GpAt.stable hh.out.2.1).get hlt
      have hx := hat k hlt
      obtain ⟨g, hge⟩ : ∃ g, l[k] = g := ⟨_, rfl⟩
      have HG := hide hge
      rw [hge] at hx
      clear hge hat
      obtain ⟨as_, cs⟩ := g
      obtain ⟨a2, c2, ⟨e0, e1⟩, hrow⟩ := hx.cells
      have HROW := hide hrow
      have hl2 := hrow.1
      have HALL := hide (show rightGpB ⟨as_, cs⟩ = true → ∀ j (h : j < l.length), j < k + 1 → rightGpB l[j] = true from fun h => all_next hh.out.2.2 (fun _ => HG.out) h)
      have HNO := hide (show rightGpB ⟨as_, cs⟩ = false → rightChB l = false from fun h => by unfold rightChB; rw [all_not rightGpB l k hlt (by rw [HG.out]; exact h)]; rfl)
      have HB := hide (hh.out.2.1.alloc hh.out.2.1.size (.cells #[.int .i64 as_, .slice a2 cs.length c2] 68))
      clear hx hrow
      by_cases h1 : as_ < 0
      · have h1d : decide (as_ < 0) = true := decide_eq_true h1
        have HF := hide (HNO.out (by unfold rightGpB; rw [decide_eq_false (by show ¬ 0 ≤ as_; omega)]; rfl))
        go_wp2_with fail
        go_ret
        exact ⟨by rw [HF.out]; rfl, HB.out⟩
      have h1d : decide (as_ < 0) = false := decide_eq_false h1
      by_cases h2 : 3 < as_
      · have h2d : decide (3 < as_) = true := decide_eq_true h2
        have HF := hide (HNO.out (by unfold rightGpB; rw [decide_eq_false (show ¬ as_ ≤ 3 by omega)]; simp))
        go_wp2_with fail
        go_ret
        exact ⟨by rw [HF.out]; rfl, HB.out⟩
      have h2d : decide (3 < as_) = false := decide_eq_false h2
      by_cases h3 : cs.length = 0
      · have h3d : ((cs.length : Int) == 0) = true := by simpa using h3
        have HF := hide (HNO.out (by unfold rightGpB; rw [decide_eq_false (show ¬ 1 ≤ cs.length by omega)]; simp))
        clear h3
        go_wp2_with fail
        go_ret
        exact ⟨by rw [HF.out]; rfl, HB.out⟩
      have h3d : ((cs.length : Int) == 0) = false := by simpa using h3
      by_cases h4 : 16 < cs.length
      · have h4d : decide ((16 : Int) < (cs.length : Int)) = true := decide_eq_true (by omega)
        have HF := hide (HNO.out (by unfold rightGpB; rw [decide_eq_false (show ¬ cs.length ≤ 16 by omega)]; simp))
        clear h3
        go_wp2_with fail
        go_ret
        exact ⟨by rw [HF.out]; rfl, HB.out⟩
      have h4d : decide ((16 : Int) < (cs.length : Int)) = false := decide_eq_false (by omega)
      have HY := hide (show (cs.all (fun s => namedB s false) = true → rightGpB ⟨as_, cs⟩ = true) ∧ (cs.all (fun s => namedB s false) = false → rightGpB ⟨as_, cs⟩ = false) from by
        unfold rightGpB
        rw [decide_eq_true (show 0 ≤ as_ by omega), decide_eq_true (show as_ ≤ 3 by omega), decide_eq_true (show 1 ≤ cs.length by omega), decide_eq_true (show cs.length ≤ 16 by omega)]
        exact ⟨fun h => by rw [h]; rfl, fun h => by rw [h]; rfl⟩)
      clear h1 h2 h3 h4
      go_wp2_with fail
      clear e0 e1
      obtain ⟨wo, rfl⟩ : ∃ wo : World, wo = wr := ⟨_, rfl⟩
      go_loopg [36] cs.length (fun u v36 wi => ∃ j : Nat, Hid (u = cs.length - j) ∧ v36 = .int .i64 (j : Int) ∧ Hid (j ≤ cs.length ∧ Below w.heap.size w wi ∧ Below wo.heap.size wo wi ∧ ∀ i (h : i < cs.length), i < j → namedB cs[i] false = true))
      case atStart => exact ⟨0, hide rfl, rfl, hide ⟨Nat.zero_le _, HB.out, (Below.refl _ _).alloc (Nat.le_refl _) _, none_to (f := fun s => namedB s false) rfl⟩⟩
      case round =>
        obtain ⟨j, hv, rfl, hi⟩ := hrel
        have hjl := hi.out.1
        by_cases hlt2 : j < cs.length
        · have hltj : (j : Int) < (cs.length : Int) := by omega
          obtain ⟨b2, o2, rfl, hb2, hat2⟩ := (HROW.out.below StrAt.stable hi.out.2.2.1).get hlt2
          have hx2 := hat2 j hlt2
          rw [Nat.mul_one] at hx2
          obtain ⟨s, hse⟩ : ∃ s, cs[j] = s := ⟨_, rfl⟩
          have HS := hide hse
          rw [hse] at hx2
          clear hse hat2
          obtain ⟨hsh, f0⟩ := hx2
          cases hq : namedB s false with
          | true =>
            have HC := hide (HN.out s wr hsh)
            rw [hq] at HC
            have HQ := hide hq
            clear hq
            go_wp2_with (go_at_call 84; refine HC.out.mono ?_; rintro e w' ⟨rfl, hb'⟩)
            go_roundg (cs.length - (j + 1))
            case measure => rw [hv.out]; omega
            case rel => exact ⟨j + 1, hide rfl, by go_num, hide ⟨hlt2, below_next hi.out.2.1 hb', below_next hi.out.2.2.1 hb', all_next (f := fun s => namedB s false) hi.out.2.2.2 (fun _ => HS.out) HQ.out⟩⟩
          | false =>
            have HC := hide (HN.out s wr hsh)
            rw [hq] at HC
            have HF := hide (HNO.out (HY.out.2 (all_not (fun s => namedB s false) cs j hlt2 (by show namedB cs[j] false = false; rw [HS.out]; exact hq))))
            clear hq
            go_wp2_with (go_at_call 84; refine HC.out.mono ?_; rintro e w' ⟨rfl, hb'⟩)
            go_ret
            exact ⟨by rw [HF.out]; rfl, below_next hi.out.2.1 hb'⟩
        · have hltj : ¬ (j : Int) < (cs.length : Int) := by omega
          have HT := hide (HALL.out (HY.out.1 (all_to _ cs (fun i h => hi.out.2.2.2 i h (by omega)))))
          go_wp2_with fail
          go_roundg (l.length - (k + 1))
          case measure => rw [hu.out]; omega
          case rel => exact ⟨k + 1, hide rfl, by go_num, hide ⟨hlt, hi.out.2.1, HT.out⟩⟩
    · have hlti : ¬ (k : Int) < (l.length : Int) := by omega
      have HT := hide (all_to _ l (fun j h => hh.out.2.2 j h (by omega)))
      by_cases h1 : 0 < l.length
      · have h1i : (0 : Int) < (l.length : Int) := by omega
        have h1d : decide ((0 : Int) < (l.length : Int)) = true := decide_eq_true h1i
        go_wp2_with fail
        go_ret
        refine ⟨ret_bool ?_, hh.out.2.1⟩
        unfold rightChB
        rw [HT.out, decide_eq_true (show 1 ≤ l.length from h1), Bool.eq_iff_iff]
        simp
        omega
      · have h1d : decide ((0 : Int) < (l.length : Int)) = false := decide_eq_false (by omega)
        go_wp2_with fail
        go_ret
        refine ⟨ret_bool ?_, hh.out.2.1⟩
        unfold rightChB
        rw [decide_eq_false (show ¬ 1 ≤ l.length from h1)]
        simp
end Go.Proofs.Ytalicfpcmcbdbaa
