/- The iterator of slices.Backward over a row of jobs. -/
import Derived.Test.YtcmhlfnmjpmjhaaFlatd
import Derived.Maps.OwnIn
import Derived.Deep.CutRange
set_option linter.unusedVariables false
set_option linter.unusedSimpArgs false
set_option linter.unnecessarySimpa false
set_option linter.deprecated false
namespace Go.Proofs.Ytcmhlfnmjpmjhaa
open Go.RowKit Go.Shelf
attribute [local go_sem] Oper.semAt_some

theorem hdw {k : Nat} : Fence.wide.depth.isSome = true → 1 ≤ k := fun h => by simp [Fence.wide] at h

/-- A row's cells from the last to the first, each behind its place. -/
def bk (vs : List Value) (k : Nat) : List (Nat × Value) := (List.range k).map (fun i => (vs.length - 1 - i, vs.getD (vs.length - 1 - i) undef))
theorem bk_len (vs : List Value) (k : Nat) : (bk vs k).length = k := by simp [bk]
theorem bk_succ (vs : List Value) (k : Nat) : bk vs (k + 1) = bk vs k ++ [(vs.length - 1 - k, vs.getD (vs.length - 1 - k) undef)] := by simp [bk, List.range_succ]
theorem bk_zero (vs : List Value) : bk vs 0 = [] := rfl
theorem bk_snd (vs : List Value) : (bk vs vs.length).map Prod.snd = vs.reverse := by
  apply List.ext_getElem
  · simp [bk]
  · intro i h1 h2
    simp only [List.length_reverse] at h2
    simp [bk, List.getElem_reverse, List.getD_eq_getElem?_getD, List.getElem?_eq_getElem (show vs.length - 1 - i < vs.length by omega)]
/-- What is handed on. -/
def RBk (vs : List Value) (pr : List (Nat × Value)) (x : Nat × Value) (W0 W1 : World) : Prop := ∃ k, k < vs.length ∧ pr = bk vs k ∧ x = (vs.length - 1 - k, vs.getD (vs.length - 1 - k) undef)
/-- What stands at the head of a round. -/
structure BkRel (Wr : Nat → TypeId → Prop) (J : List (Nat × Value) → World → Prop) (vs : List Value) (W : World) (k : Nat) (wr : World) : Prop where
  le : k ≤ vs.length
  at' : J (bk vs k) wr
  keep : KC Wr W wr

set_option maxHeartbeats 2000000 in
set_option maxRecDepth 100000 in
theorem back_iter (bx : Nat) (a : Option Addr) (c : Nat) (vs : List Value) (w : World) (Wr : Nat → TypeId → Prop) (hv : vs.length ≤ 140737488351232) (hbx : Blk w bx #[.slice a vs.length c] 66) (hnx : ¬ Wr bx 66)
    (hvs : ∀ i (h : i < vs.length), ∃ b o, a = some ⟨b, o, none⟩ ∧ (∀ t, ¬ Wr b t) ∧ b < w.heap.size ∧ w.cell? ⟨b, o + i, none⟩ = some vs[i]) :
    Iter Try.prog 83 #[.pointer (some ⟨bx, 0, none⟩)] (fun x : Nat × Value => #[.int .i64 (x.1 : Int), x.2]) (RBk vs) Wr (fun ys => ys = bk vs vs.length) (fun _ => True) vs.length w := by
  intro l J Jx W hb hJ hJx hY h0 n
  have HBX := hide (hbx.below hb)
  have HVS := hide (show ∀ i (h : i < vs.length), ∃ b o, a = some ⟨b, o, none⟩ ∧ (∀ t, ¬ Wr b t) ∧ b < W.heap.size ∧ W.cell? ⟨b, o + i, none⟩ = some vs[i] from fun i h => by
    obtain ⟨b, o, e1, e2, e3, e4⟩ := hvs i h
    exact ⟨b, o, e1, e2, Nat.lt_of_lt_of_le e3 hb.size, (hb.cell (p := ⟨b, o + i, none⟩) e3).trans e4⟩)
  have HY := hide hY
  have HJ := hide hJ
  have H0 := hide h0
  have e0 := HBX.out.cell 0
  have el := HBX.out.lt
  clear hbx hb hvs hY hJ hJx h0
  refine callsIn_of_wp Try.func83 rfl trivial ?_ rfl
  simp only [Try.ntmps83, List.size_toArray, List.length_cons, List.length_nil, Nat.reduceAdd, Nat.reduceSub, Array.replicate_succ, Array.replicate_zero, List.push_toArray, List.append_toArray, List.nil_append, List.cons_append]
  gi_wp2_with fail
  gi_loopw [3] (fun i wr => ∃ k : Nat, i = .int .i64 ((vs.length : Int) - 1 - (k : Int)) ∧ Hid (BkRel Wr J vs W k wr)) (fun i wr => (intOf i + 1).toNat)
  case atStart => exact ⟨0, by simp, ⟨Nat.zero_le _, H0.out, KC.refl _ _⟩⟩
  case round =>
    obtain ⟨k, rfl, hr⟩ := hrel
    have hle := hr.out.le
    clear e0 el
    by_cases hlt : k < vs.length
    · have hlti : (0 : Int) ≤ (vs.length : Int) - 1 - (k : Int) := by omega
      obtain ⟨i, hi⟩ : ∃ i, vs.length - 1 - k = i := ⟨_, rfl⟩
      have hii : (vs.length : Int) - 1 - (k : Int) = (i : Int) := by omega
      have hil : i < vs.length := by omega
      have hili : (i : Int) < (vs.length : Int) := by omega
      have hi0 : (0 : Int) ≤ (i : Int) := by omega
      rw [hii]
      obtain ⟨b, o, rfl, hnb, hbl, e⟩ := HVS.out i hil
      obtain ⟨v, hve⟩ : ∃ v, vs[i] = v := ⟨_, rfl⟩
      rw [hve] at e
      have e' := hr.out.keep.cell hnb e
      have hbl' := Nat.lt_of_lt_of_le hbl hr.out.keep.size
      have hbx' := hr.out.keep.blk hnx HBX.out
      have e0 := hbx'.cell 0
      have el := hbx'.lt
      have hY1 := HY.out (n - 1) (bk vs k) (i, v) wr wr hr.out.at' (Below.refl _ _) ⟨k, hlt, rfl, by rw [hi, List.getD_eq_getElem?_getD, List.getElem?_eq_getElem hil, hve]; rfl⟩ (by rw [bk_len]; omega)
      obtain ⟨fn, tmps, assign, body, hy, hR⟩ := hY1
      dsimp only at hy
      have HRR := hide hR
      have HE := hide (show bk vs k ++ [(i, v)] = bk vs (k + 1) by rw [bk_succ, hi, List.getD_eq_getElem?_getD, List.getElem?_eq_getElem hil, hve]; rfl)
      clear hR hbx' e hbl hve hlti hii
      gi_wp2_with fail
      refine ⟨hdw, HRR.out.mono ?_⟩
      rintro e w2 (⟨rfl, hj2, hk2⟩ | ⟨rfl, hx2⟩)
      · have HJ2 := hide hj2
        have HK2 := hide (hr.out.keep.trans hk2)
        clear hj2 hk2
        gi_wp2_with fail
        go_roundw
        case rel => exact ⟨k + 1, by rw [show (vs.length : Int) - 1 - ((k + 1 : Nat) : Int) = (i : Int) - 1 by omega], ⟨hlt, HE.out ▸ HJ2.out, HK2.out⟩⟩
        case measure => simp [intOf] <;> omega
      · have HX2 := hide hx2
        clear hx2
        gi_wp2_with fail
        refine bodyPost_ret (results_none rfl _ _ _) rfl ?_
        exact ⟨⟨_, rfl⟩, .inr ⟨_, trivial, HX2.out⟩⟩
    · have hke : k = vs.length := by omega
      have HR2 := hide (show J (bk vs vs.length) wr from hke ▸ hr.out.at')
      have hlti : ¬ ((0 : Int) ≤ (vs.length : Int) - 1 - (k : Int)) := by omega
      gi_wp2_with fail
      go_end0
      exact ⟨⟨_, rfl⟩, .inl HR2.out⟩

set_option maxHeartbeats 1000000 in
theorem back_any (a : Option Addr) (n c : Nat) (w : World) : Calls Try.prog 81 #[.slice a n c] w fun e w' => e = .returned (.func (.func 83) #[] #[.pointer (some ⟨w.heap.size, 0, none⟩)]) ∧ w' = w.alloc (.cells #[.slice a n c] 66) := by
  go_enter Try.func81, Try.ntmps81
  go_wp2_with fail
  go_ret
  exact ⟨rfl, rfl⟩
end Go.Proofs.Ytcmhlfnmjpmjhaa
