/- The walk of prio. The walk of fits. The walk of box. The looks of Check, as a list. -/
import Derived.Test.YtalicfpcmcbdbaaZLook2
import Derived.Test.YtalicfpcmcbdbaaZRcWalk
import Derived.Test.YtalicfpcmcbdbaaZCons
import Derived.Test.YtalicfpcmcbdbaaZRItems
import Derived.Test.YtalicfpcmcbdbaaZLook7
import Derived.Test.YtalicfpcmcbdbaaZLookA
import Derived.Shelf.GgClosure.Gives
set_option linter.unusedVariables false
set_option linter.unusedSimpArgs false
set_option linter.unnecessarySimpa false
set_option linter.deprecated false
namespace Go.Proofs.Ytalicfpcmcbdbaa
open Go.RowKit

def chainN (l : List Gp) : List ByteArray := l.flatMap Gp.cons
def badC (d : Df) (s : ByteArray) : Bool := decide (consIdx d.prods s < 0)
/-- The first name of a list that is bad, or that was met. -/
def dupO (bad : ByteArray → Bool) : List ByteArray → List ByteArray → Option ByteArray
  | [], _ => none
  | s :: r, met => if (bad s || inB s met) = true then some s else dupO bad r (met ++ [s])
theorem dupO_app (bad : ByteArray → Bool) : ∀ (l1 l2 met : List ByteArray), dupO bad l1 met = none → dupO bad (l1 ++ l2) met = dupO bad l2 (met ++ l1)
  | [], l2, met, _ => by simp
  | s :: r, l2, met, h => by
    rw [dupO] at h
    rw [List.cons_append, dupO]
    split at h
    · cases h
    · rename_i h2
      rw [if_neg h2, dupO_app bad r l2 _ h, List.append_assoc]; rfl
theorem dupO_snoc (bad : ByteArray → Bool) (l : List ByteArray) (s : ByteArray) (h : dupO bad l [] = none) (hb : (bad s || inB s l) = false) : dupO bad (l ++ [s]) [] = none := by
  rw [dupO_app bad l [s] [] h, List.nil_append, dupO, if_neg (by rw [hb]; decide)]; rfl
theorem dupO_hit (bad : ByteArray → Bool) (l r : List ByteArray) (s : ByteArray) (h : dupO bad l [] = none) (hb : (bad s || inB s l) = true) : dupO bad (l ++ s :: r) [] = some s := by
  rw [dupO_app bad l (s :: r) [] h, List.nil_append, dupO, if_pos hb]
def prioG (f : List Gp → Option ByteArray) : List (List Gp) → Int × ByteArray
  | [] => okL
  | ch :: r => match f ch with | some s => (50, s) | none => prioG f r
theorem prioG_hit (f : List Gp → Option ByteArray) (s : ByteArray) : ∀ (l : List (List Gp)) (k : Nat) (hk : k < l.length), (∀ j (h : j < l.length), j < k → f l[j] = none) → f l[k] = some s → prioG f l = (50, s)
  | [], k, hk, _, _ => absurd hk (by simp)
  | x :: xs, 0, hk, _, hp => by
    have hp : f x = some s := hp
    rw [prioG, hp]
  | x :: xs, k + 1, hk, hf, hp => by
    have h0 : f x = none := hf 0 (by simp) (by omega)
    rw [prioG, h0]
    exact prioG_hit f s xs k (by simpa using hk) (fun j h hj => by have := hf (j + 1) (by simpa using h) (by omega); simpa using this) (by simpa using hp)
theorem prioG_miss (f : List Gp → Option ByteArray) : ∀ (l : List (List Gp)), (∀ j (h : j < l.length), f l[j] = none) → prioG f l = okL
  | [], _ => rfl
  | x :: xs, hf => by
    have h0 : f x = none := hf 0 (by simp)
    rw [prioG, h0]
    exact prioG_miss f xs (fun j h => by have := hf (j + 1) (by simpa using h); simpa using this)
def prioF (d : Df) (ch : List Gp) : Option ByteArray := dupO (badC d) (chainN ch) []
def prioL (d : Df) : Int × ByteArray := prioG (prioF d) d.chains
theorem chainN_snoc (l : List Gp) (k : Nat) (h : k < l.length) : chainN (l.take (k + 1)) = chainN (l.take k) ++ l[k].cons := by
  unfold chainN; rw [take_snoc _ _ h, List.flatMap_append]; simp
theorem chainN_split (l : List Gp) (k i : Nat) (h : k < l.length) (hi : i < l[k].cons.length) : ∃ r, chainN l = (chainN (l.take k) ++ l[k].cons.take i) ++ l[k].cons[i] :: r := by
  refine ⟨l[k].cons.drop (i + 1) ++ chainN (l.drop (k + 1)), ?_⟩
  conv => lhs; rw [← List.take_append_drop k l, ← List.getElem_cons_drop (h := h)]
  unfold chainN
  rw [List.flatMap_append, List.flatMap_cons]
  have e : l[k].cons = l[k].cons.take i ++ l[k].cons[i] :: l[k].cons.drop (i + 1) := by rw [List.getElem_cons_drop, List.take_append_drop]
  have e2 : ∀ R : List ByteArray, l[k].cons ++ R = l[k].cons.take i ++ l[k].cons[i] :: (l[k].cons.drop (i + 1) ++ R) := fun R => by
    conv => lhs; rw [e]
    simp only [List.append_assoc, List.cons_append]
  rw [e2, List.append_assoc]
set_option maxHeartbeats 1600000 in
set_option maxRecDepth 100000 in
theorem prio_any (d : Df) (a2 : Option Addr) (c2 : Nat) (a3 : Option Addr) (c3 : Nat) (a4 : Option Addr) (c4 : Nat) (a5 : Option Addr) (c5 : Nat) (a6 : Option Addr) (c6 : Nat) (as_ : Option Addr) (cs m n : Nat) (bb : Nat) (w : World) (hbk : Book d a2 c2 a3 c3 a4 c4 a5 c5 a6 c6 as_ cs m n bb w) (hct : ∀ ch ∈ d.chains, (chainN ch).length ≤ 99999) : Calls Try.prog 47 #[.pointer (some ⟨bb, 0, none⟩)] w fun e w' => e = .returned (.tuple #[.int .i64 ((prioL d).1), .string ((prioL d).2)]) ∧ Below w.heap.size w w' := by
  have hmm := @run_makeMap Try.prog
  have hln := hbk.rd.c.1
  have bk0 := hbk.bk.cell 0
  have bk1 := hbk.bk.cell 1
  have bk2 := hbk.bk.cell 2
  have bk3 := hbk.bk.cell 3
  have bk4 := hbk.bk.cell 4
  have bk5 := hbk.bk.cell 5
  have bk6 := hbk.bk.cell 6
  have bk7 := hbk.bk.cell 7
  have bk8 := hbk.bk.cell 8
  have bkl := hbk.bk.lt
  have HBK := hide hbk
  clear hbk
  have HCT := hide hct
  obtain ⟨res, hres⟩ : ∃ r, prioL d = r := ⟨_, rfl⟩
  have HRES := hide hres
  rw [hres]
  clear hres hct
  go_enter Try.func47, Try.ntmps47
  go_wp2_with fail
  clear bk0 bk1 bk2 bk3 bk4 bk5 bk6 bk7 bk8 bkl
  go_loopg [17] d.chains.length (fun u v17 wr => ∃ k : Nat, Hid (u = d.chains.length - k) ∧ v17 = .int .i64 (k : Int) ∧ Hid (k ≤ d.chains.length ∧ Below w.heap.size w wr ∧ ∀ j (h : j < d.chains.length), j < k → prioF d d.chains[j] = none))
  case atStart => exact ⟨0, hide rfl, rfl, hide ⟨Nat.zero_le _, Below.refl _ _, fun j _ h => by omega⟩⟩
  case round =>
    obtain ⟨k, hu, rfl, hh⟩ := hrel
    have hkl := hh.out.1
    by_cases hlt : k < d.chains.length
    · have hlti : (k : Int) < (d.chains.length : Int) := by omega
      obtain ⟨b, o, rfl, hb, hat⟩ := (HBK.out.below hh.out.2.1).rd.c.get hlt
      have hx := hat k hlt
      rw [Nat.mul_one] at hx
      have HNX := hide (fun (h : prioF d d.chains[k] = none) => (show ∀ j (h : j < d.chains.length), j < k + 1 → prioF d d.chains[j] = none from fun j hj hjk => by
        by_cases e : j = k
        · subst e; exact h
        · exact hh.out.2.2 j hj (by omega)))
      have HHI := hide (fun s (h : prioF d d.chains[k] = some s) => prioG_hit (prioF d) s d.chains k hlt hh.out.2.2 h)
      have HCL := hide (HCT.out _ (List.getElem_mem hlt))
      generalize d.chains[k] = ch at hx HNX HHI HCL
      clear hat
      obtain ⟨ac, cc, e0, hrc⟩ := hx
      have HRO := hide hrc
      have hlc := hrc.1
      have HBO := hide hh.out.2.1
      have HBKO := hide (HBK.out.below hh.out.2.1)
      have HM0 := hide (MapF.made wr)
      have HBM := hide ((Below.refl wr.heap.size wr).alloc (Nat.le_refl _) (.map #[] 0))
      clear hrc hh
      go_wp2_with fail
      obtain ⟨wo, hwo⟩ : ∃ wo : World, wo = wr := ⟨_, rfl⟩
      rw [← hwo] at HRO HBO HBKO HM0 HBM e0 hb ⊢
      obtain ⟨mb, hmb⟩ : ∃ mb, wo.heap.size = mb := ⟨_, rfl⟩
      obtain ⟨w2, hw2⟩ : ∃ w2, wo.alloc (.map #[] 0) = w2 := ⟨_, rfl⟩
      rw [hmb, hw2] at HM0
      rw [hw2] at HBM
      rw [hw2, hmb]
      have HMB := hide (show wo.heap.size ≤ mb by omega)
      clear hwo hmb hw2
      go_loopg [24] ch.length (fun u v24 wr => ∃ j : Nat, Hid (u = ch.length - j) ∧ v24 = .int .i64 (j : Int) ∧ Hid (j ≤ ch.length ∧ Below wo.heap.size wo wr ∧ MapF wr mb (chainN (ch.take j)).length (metF (chainN (ch.take j))) ∧ dupO (badC d) (chainN (ch.take j)) [] = none))
      case atStart => exact ⟨0, hide rfl, rfl, hide ⟨Nat.zero_le _, HBM.out, by rw [show chainN (ch.take 0) = [] from rfl, metF_nil]; exact HM0.out, rfl⟩⟩
      case round =>
        obtain ⟨j, hv, rfl, hq⟩ := hrel
        have hjl := hq.out.1
        by_cases hltj : j < ch.length
        · have hltji : (j : Int) < (ch.length : Int) := by omega
          obtain ⟨b2, o2, rfl, hb2, hat2⟩ := HRO.out.get hltj
          have hx2 := hat2 j hltj
          have HSP := hide (fun i (hi : i < ch[j].cons.length) => chainN_split ch j i hltj hi)
          have HSN := hide (chainN_snoc ch j hltj)
          generalize ch[j] = g at hx2 HSP HSN
          clear hat2
          obtain ⟨ag, cg, ⟨f0, f1⟩, hrg⟩ := hx2.cells
          have HRG := hide hrg
          have hlg := hrg.1
          have g0 := (hq.out.2.1.cell (p := ⟨b2, o2 + j * 2, none⟩) hb2).trans f0
          have g1 := (hq.out.2.1.cell (p := ⟨b2, o2 + j * 2 + 1, none⟩) hb2).trans f1
          have hb3 : b2 < wr.heap.size := Nat.lt_of_lt_of_le hb2 hq.out.2.1.size
          have HBX := hide (hq.out.2.1.alloc hq.out.2.1.size (.cells #[.int .i64 g.assoc, .slice ag g.cons.length cg] 68))
          have HMX := hide (hq.out.2.2.1.below ((Below.refl wr.heap.size wr).alloc (Nat.le_refl _) (.cells #[.int .i64 g.assoc, .slice ag g.cons.length cg] 68)))
          have HD0 := hide hq.out.2.2.2
          have HJ := hide hltj
          clear hx2 hrg f0 f1 hq
          go_wp2_with fail
          clear g0 g1 hb3
          obtain ⟨w3, hw3⟩ : ∃ w3, wr.alloc (.cells #[.int .i64 g.assoc, .slice ag g.cons.length cg] 68) = w3 := ⟨_, rfl⟩
          rw [hw3] at HBX HMX
          rw [hw3]
          clear hw3
          go_loopg [31] g.cons.length (fun u v31 wr => ∃ i : Nat, Hid (u = g.cons.length - i) ∧ v31 = .int .i64 (i : Int) ∧ Hid (i ≤ g.cons.length ∧ Below wo.heap.size wo wr ∧ MapF wr mb (chainN (ch.take j) ++ g.cons.take i).length (metF (chainN (ch.take j) ++ g.cons.take i)) ∧ dupO (badC d) (chainN (ch.take j) ++ g.cons.take i) [] = none))
          case atStart => exact ⟨0, hide rfl, rfl, hide ⟨Nat.zero_le _, HBX.out, by rw [List.take_zero, List.append_nil]; exact HMX.out, by rw [List.take_zero, List.append_nil]; exact HD0.out⟩⟩
          case round =>
            obtain ⟨i, hz, rfl, hr⟩ := hrel
            have hil := hr.out.1
            by_cases hlti2 : i < g.cons.length
            · have hltii : (i : Int) < (g.cons.length : Int) := by omega
              obtain ⟨b4, o4, rfl, hb4, hat4⟩ := (HRG.out.below StrAt.stable hr.out.2.1).get hlti2
              have hx4 := hat4 i hlti2
              rw [Nat.mul_one] at hx4
              have HTK := hide (take_snoc g.cons i hlti2)
              replace HSP := hide (HSP.out i hlti2)
              generalize g.cons[i] = s at hx4 HTK HSP
              clear hat4
              obtain ⟨hsh, f4⟩ := hx4
              have HSH := hide hsh
              have hbk := HBKO.out.below hr.out.2.1
              have bk0 := hbk.bk.cell 0
              have bk1 := hbk.bk.cell 1
              have bk2 := hbk.bk.cell 2
              have bk3 := hbk.bk.cell 3
              have bk4 := hbk.bk.cell 4
              have bk5 := hbk.bk.cell 5
              have bk6 := hbk.bk.cell 6
              have bkl := hbk.bk.lt
              have HC := hide (Cons_at d a2 c2 (some ⟨b, o, none⟩) c3 a4 c4 a5 c5 a6 c6 s wr hbk.rd.p)
              obtain ⟨pre, hpre⟩ : ∃ pre, chainN (ch.take j) ++ g.cons.take i = pre := ⟨_, rfl⟩
              have HPN := hide (show chainN (ch.take j) ++ g.cons.take (i + 1) = pre ++ [s] by rw [HTK.out, ← List.append_assoc, hpre])
              rw [hpre] at hr HSP
              have HPL := hide (show pre.length ≤ 99999 by
                obtain ⟨r, h⟩ := HSP.out
                have := HCL.out
                rw [h, List.length_append] at this
                omega)
              obtain ⟨ci, hci⟩ : ∃ ci, consIdx d.prods s = ci := ⟨_, rfl⟩
              rw [hci] at HC
              have HBAD := hide (show badC d s = decide (ci < 0) by unfold badC; rw [hci])
              clear hbk hpre hci hsh
              go_wp2_with fail
              refine HC.out.mono ?_
              rintro e w5 ⟨rfl, hb5⟩
              have HB5 := hide (below_next hr.out.2.1 hb5)
              have HM5 := hide (hr.out.2.2.1.below hb5)
              have HD5 := hide hr.out.2.2.2
              have hlk := HM5.out.look s HSH.out
              clear hb5 hr bk0 bk1 bk2 bk3 bk4 bk5 bk6 bkl f4 hb4
              by_cases h0 : ci < 0
              · have HF := hide (show res = (50, s) by
                  rw [← HRES.out]
                  obtain ⟨r, h⟩ := HSP.out
                  exact HHI.out s (by unfold prioF; rw [h]; exact dupO_hit _ _ _ _ HD5.out (by rw [HBAD.out, decide_eq_true h0]; rfl)))
                go_wp2_with fail
                go_ret2
                exact ⟨by rw [HF.out]; rfl, below_next HBO.out HB5.out⟩
              · cases hin : inB s pre with
                | true =>
                  have hlk1 : metF pre s = 1 := by unfold metF; rw [hin]; rfl
                  rw [hlk1] at hlk
                  have HF := hide (show res = (50, s) by
                    rw [← HRES.out]
                    obtain ⟨r, h⟩ := HSP.out
                    exact HHI.out s (by unfold prioF; rw [h]; exact dupO_hit _ _ _ _ HD5.out (by rw [hin]; simp)))
                  clear hin hlk1
                  go_wp2_with fail
                  go_ret2
                  exact ⟨by rw [HF.out]; rfl, below_next HBO.out HB5.out⟩
                | false =>
                  have hlk0 : metF pre s = 0 := by unfold metF; rw [hin]; rfl
                  rw [hlk0] at hlk
                  have HDN := hide (dupO_snoc (badC d) pre s HD5.out (by rw [HBAD.out, hin, decide_eq_false h0]; rfl))
                  have hml2 : pre.length < 1000000 := by have := HPL.out; omega
                  clear hin hlk0
                  go_wp2_with (at_mapUpdate; refine wpList_update rfl _ _ _ rfl mb pre.length (metF pre) rfl HM5.out hml2 s HSH.out 1 (by decide) (by unfold i64; omega) rfl rfl ?_; intro w7 hm7 hg7; have HM7 := hide hm7; have HG7 := hide hg7; clear hm7 hg7)
                  go_roundg (g.cons.length - (i + 1))
                  case measure => rw [hz.out]; omega
                  case rel =>
                    refine ⟨i + 1, hide rfl, by go_num, hide ⟨hlti2, HB5.out.grown HG7.out HB5.out.size (fun g e => by injection e with e; rw [← e]; exact HMB.out), ?_, ?_⟩⟩
                    · rw [HPN.out, metF_add, List.length_append]; exact HM7.out
                    · rw [HPN.out]; exact HDN.out
            · have hltii : ¬ (i : Int) < (g.cons.length : Int) := by omega
              have ht : g.cons.take i = g.cons := List.take_of_length_le (by omega)
              have HEN := hide (show chainN (ch.take j) ++ g.cons.take i = chainN (ch.take (j + 1)) by rw [HSN.out, ht])
              clear ht
              have HR := hide hr.out
              clear hr
              go_wp2_with fail
              go_roundg (ch.length - (j + 1))
              case measure => rw [hv.out]; have := HJ.out; omega
              case rel => exact ⟨j + 1, hide rfl, by go_num, hide ⟨HJ.out, HR.out.2.1, by rw [← HEN.out]; exact HR.out.2.2.1, by rw [← HEN.out]; exact HR.out.2.2.2⟩⟩
        · have hltji : ¬ (j : Int) < (ch.length : Int) := by omega
          have HEN := hide (show ch.take j = ch from List.take_of_length_le (by omega))
          have HQ := hide hq.out
          clear hq
          go_wp2_with fail
          go_roundg (d.chains.length - (k + 1))
          case measure => rw [hu.out]; omega
          case rel => exact ⟨k + 1, hide rfl, by go_num, hide ⟨hlt, below_next HBO.out HQ.out.2.1, HNX.out (by unfold prioF; have := HQ.out.2.2.2; rw [HEN.out] at this; exact this)⟩⟩
    · have hlti : ¬ (k : Int) < (d.chains.length : Int) := by omega
      have HF := hide (show res = okL by rw [← HRES.out]; exact prioG_miss (prioF d) d.chains (fun j h => hh.out.2.2 j h (by omega)))
      go_wp2_with fail
      go_ret2
      exact ⟨by rw [HF.out]; rfl, hh.out.2.1⟩
end Go.Proofs.Ytalicfpcmcbdbaa

set_option linter.unusedVariables false
set_option linter.unusedSimpArgs false
set_option linter.unnecessarySimpa false
set_option linter.deprecated false
namespace Go.Proofs.Ytalicfpcmcbdbaa
open Go.RowKit

/-- A literal, or a hole, against the first of what is left. -/
def fOne (kd : Int) (t : ByteArray) (n : Int) (r : List Sy) (m : Int) : Option (List Sy × Int) :=
  match r with
  | [] => none
  | s :: r => if kd = 1 then (if s.kind = 1 ∧ s.text = t then some (r, m) else none) else (if s.kind = 1 ∨ n ≠ m + 1 then none else some (r, m + 1))
theorem fOne_le (kd : Int) (t : ByteArray) (n : Int) (r : List Sy) (m : Int) (p : List Sy × Int) (h : fOne kd t n r m = some p) : m ≤ p.2 ∧ p.2 + p.1.length ≤ m + r.length := by
  unfold fOne at h
  split at h
  · cases h
  · split at h
    · split at h
      · injection h with h; subst h; simp only [List.length_cons]; push_cast; omega
      · cases h
    · split at h
      · cases h
      · injection h with h; subst h; simp only [List.length_cons]; push_cast; omega
mutual
/-- What is left of a production's symbols behind an item, and the number of its holes (none: it does not fit). -/
def fI : It → List Sy → Int → Option (List Sy × Int)
  | .mk kd t n l, r, m =>
    if kd = 5 ∨ kd = 6 then (if 40 < n then none else fIs l r m)
    else if kd = 1 ∨ kd = 2 then fOne kd t n r m
    else some (r, m)
def fIs : List It → List Sy → Int → Option (List Sy × Int)
  | [], r, m => some (r, m)
  | x :: xs, r, m => match fI x r m with
    | none => none
    | some p => fIs xs p.1 p.2
end
theorem fI_le : ∀ (x : It) (r : List Sy) (m : Int) (p : List Sy × Int), fI x r m = some p → m ≤ p.2 ∧ p.2 + p.1.length ≤ m + r.length
  | .mk kd t n l, r, m, p, h => by
    rw [fI] at h
    split at h
    · split at h
      · cases h
      · exact fIs_le l r m p h
    · split at h
      · exact fOne_le kd t n r m p h
      · injection h with h; subst h; simp
where fIs_le : ∀ (l : List It) (r : List Sy) (m : Int) (p : List Sy × Int), fIs l r m = some p → m ≤ p.2 ∧ p.2 + p.1.length ≤ m + r.length
  | [], r, m, p, h => by rw [fIs] at h; injection h with h; subst h; simp
  | x :: xs, r, m, p, h => by
    rw [fIs] at h
    split at h
    · cases h
    · rename_i j hj
      have h1 := fI_le x r m j hj
      have h2 := fIs_le xs j.1 j.2 p h
      omega
/-- The two cells that fits writes. -/
structure FiC (w0 : World) (ks kn : Nat) (r : List Sy) (m : Int) (a : Option Addr) (c : Nat) (W : World) : Prop where
  b : Below w0.heap.size w0 W
  s : Blk W ks #[.slice a r.length c] 36
  n : Blk W kn #[.int .i64 m] 3
  rw_ : Row SyAt 8 r a w0
  cc : r.length ≤ c
/-- What fits answers. -/
def FIP (w0 : World) (ks kn : Nat) (res : Option (List Sy × Int)) (e : Ending) (w' : World) : Prop := (e = .returned (.bool res.isSome) ∧ Below w0.heap.size w0 w') ∧ ∀ r m, res = some (r, m) → ∃ a c, FiC w0 ks kn r m a c w'
structure FIw (w0 : World) (ks kn : Nat) (l : List It) (res : Option (List Sy × Int)) (k : Nat) (r : List Sy) (m : Int) (a : Option Addr) (c : Nat) (wr : World) : Prop where
  f : FiC w0 ks kn r m a c wr
  le : k ≤ l.length
  rr : fIs (l.drop k) r m = res
  m1 : 0 ≤ m
  m2 : m + r.length ≤ 1000000
set_option maxHeartbeats 1600000 in
set_option maxRecDepth 100000 in
theorem fits_all : ∀ (N : Nat) (l : List It), SizeOf.sizeOf l < N → ∀ (r0 : List Sy) (m0 : Int) (a0 : Option Addr) (c0 : Nat) (ai : Option Addr) (ci ks kn : Nat) (w0 w : World), Row ItAt 4 l ai w0 → w0.heap.size ≤ ks → w0.heap.size ≤ kn → ks ≠ kn → FiC w0 ks kn r0 m0 a0 c0 w → 0 ≤ m0 → m0 + r0.length ≤ 1000000 →
    Calls Try.prog 74 #[.slice ai l.length ci, .pointer (some ⟨ks, 0, none⟩), .pointer (some ⟨kn, 0, none⟩)] w (FIP w0 ks kn (fIs l r0 m0)) := by
  intro N
  induction N with
  | zero => intro l h; omega
  | succ N ih =>
  intro l hN r0 m0 a0 c0 ai ci ks kn w0 w hr hk1 hk2 hkk hf hm1 hm2
  have HR := hide hr
  have hln := hr.1
  have HIH := hide ih
  have HI0 := hide (show FIw w0 ks kn l (fIs l r0 m0) 0 r0 m0 a0 c0 w from ⟨hf, Nat.zero_le _, rfl, hm1, hm2⟩)
  have HK1 := hide hk1
  have HK2 := hide hk2
  obtain ⟨res, hres⟩ : ∃ r, fIs l r0 m0 = r := ⟨_, rfl⟩
  rw [hres] at HI0 ⊢
  have HN := hide hN
  have hkk2 := Ne.symm hkk
  clear hr ih hres hf hN hm1 hm2 hk1 hk2
  go_enter Try.func74, Try.ntmps74
  go_wp2_with fail
  go_loopg [12] l.length (fun u v12 wr => ∃ (k : Nat) (r : List Sy) (m : Int) (a : Option Addr) (c : Nat), Hid (u = l.length - k) ∧ v12 = .int .i64 (k : Int) ∧ Hid (FIw w0 ks kn l res k r m a c wr))
  case atStart => exact ⟨0, r0, m0, a0, c0, hide rfl, rfl, HI0⟩
  case round =>
    obtain ⟨k, r, m, a, c, hu, rfl, hh⟩ := hrel
    have hkl := hh.out.le
    have hm1 := hh.out.m1
    have hm2 := hh.out.m2
    by_cases hlt : k < l.length
    · have hlti : (k : Int) < (l.length : Int) := by omega
      obtain ⟨b, o, rfl, hb, hat⟩ := HR.out.get hlt
      have hx := hat k hlt
      have hrr := hh.out.rr
      rw [List.drop_eq_getElem_cons hlt] at hrr
      have hsz : SizeOf.sizeOf l[k].kids < N := by
        have h1 := sizeOf_kids l[k]
        have h2 := List.sizeOf_lt_of_mem (List.getElem_mem hlt)
        have := HN.out
        omega
      generalize l[k] = x at hx hrr hsz
      obtain ⟨kd, t, n, kids⟩ := x
      obtain ⟨⟨hkd, hst, hnn⟩, a2, c2, ⟨e0, e1, e2, e3⟩, hrow⟩ := hx.cells
      replace e0 : wr.cell? ⟨b, o + k * 4, none⟩ = some (.int .i64 kd) := (hh.out.f.b.cell (p := ⟨b, o + k * 4, none⟩) hb).trans e0
      replace e1 : wr.cell? ⟨b, o + k * 4 + 1, none⟩ = some (.string t) := (hh.out.f.b.cell (p := ⟨b, o + k * 4 + 1, none⟩) hb).trans e1
      replace e2 : wr.cell? ⟨b, o + k * 4 + 2, none⟩ = some (.int .i64 n) := (hh.out.f.b.cell (p := ⟨b, o + k * 4 + 2, none⟩) hb).trans e2
      replace e3 : wr.cell? ⟨b, o + k * 4 + 3, none⟩ = some (.slice a2 kids.length c2) := (hh.out.f.b.cell (p := ⟨b, o + k * 4 + 3, none⟩) hb).trans e3
      replace hrow : Row ItAt 4 kids a2 w0 := hrow
      replace hsz : SizeOf.sizeOf kids < N := hsz
      have hl2 := hrow.1
      rw [fIs, fI] at hrr
      have HRR := hide hrr
      have hbw : b < wr.heap.size := Nat.lt_of_lt_of_le hb hh.out.f.b.size
      have HF2 := hide (show FiC w0 ks kn r m a c (wr.alloc (.cells #[.int .i64 kd, .string t, .int .i64 n, .slice a2 kids.length c2] 96)) from ⟨hh.out.f.b.alloc hh.out.f.b.size _, hh.out.f.s.alloc _, hh.out.f.n.alloc _, hh.out.f.rw_, hh.out.f.cc⟩)
      have HX2 := hide (Blk.new wr #[.int .i64 kd, .string t, .int .i64 n, .slice a2 kids.length c2] 96)
      have HROW := hide hrow
      have HSZ := hide hsz
      have HNB := hide hnn
      clear hx hrr hrow hsz
      go_upto_region 4 with fail
      clear e0 e1 e2 e3 hb hbw
      generalize hw2 : wr.alloc (.cells #[.int .i64 kd, .string t, .int .i64 n, .slice a2 kids.length c2] 96) = w2 at HF2 HX2 ⊢
      obtain ⟨kx, hkx⟩ : ∃ kx, wr.heap.size = kx := ⟨_, rfl⟩
      rw [hkx] at HX2 ⊢
      have HKX := hide (show ks < kx ∧ kn < kx by rw [← hkx]; exact ⟨hh.out.f.s.lt, hh.out.f.n.lt⟩)
      clear hkx hw2
      have x0 := HX2.out.cell 0
      have x1 := HX2.out.cell 1
      have x2 := HX2.out.cell 2
      have x3 := HX2.out.cell 3
      have xl := HX2.out.lt
      by_cases h5 : kd = 5
      · subst h5
        by_cases h40 : 40 < n
        · have g40 : n > 40 := h40
          have HE := hide (show res = none by rw [← HRR.out]; simp [h40])
          clear HRR
          go_wp2_with fail
          go_ret
          exact ⟨⟨by rw [HE.out]; rfl, HF2.out.b⟩, fun r m h => by rw [HE.out] at h; cases h⟩
        · have g40 : ¬ n > 40 := h40
          have HE := hide (show (match fIs kids r m with | none => none | some p => fIs (l.drop (k + 1)) p.1 p.2) = res by rw [← HRR.out]; simp [h40])
          have HC := hide (HIH.out kids HSZ.out r m a c a2 c2 ks kn w0 w2 HROW.out HK1.out HK2.out hkk HF2.out hm1 hm2)
          obtain ⟨fr, hfr⟩ : ∃ fr, fIs kids r m = fr := ⟨_, rfl⟩
          rw [hfr] at HC HE
          have HFR := hide hfr
          clear HRR hfr h40
          go_wp2_with fail
          refine HC.out.mono ?_
          rintro e w5 ⟨⟨rfl, hb5⟩, hc5⟩
          have HB5 := hide hb5
          have HC5 := hide hc5
          clear hb5 hc5
          cases fr with
          | none =>
            go_wp2_with fail
            go_ret
            exact ⟨⟨by rw [← HE.out]; rfl, HB5.out⟩, fun r m h => by rw [← HE.out] at h; cases h⟩
          | some p =>
            obtain ⟨r5, m5⟩ := p
            obtain ⟨a5, c5, hf5⟩ := HC5.out r5 m5 rfl
            have HF5 := hide hf5
            have hle := fI_le.fIs_le kids r m _ HFR.out
            have HLE := hide hle
            clear hf5 hle
            go_wp2_with fail
            go_roundg (l.length - (k + 1))
            case measure => rw [hu.out]; omega
            case rel => exact ⟨k + 1, r5, m5, a5, c5, hide rfl, by go_num, hide ⟨HF5.out, hlt, HE.out, by have := HLE.out.1; omega, by have := HLE.out.2; omega⟩⟩
      by_cases h6 : kd = 6
      · subst h6
        by_cases h40 : 40 < n
        · have g40 : n > 40 := h40
          have HE := hide (show res = none by rw [← HRR.out]; simp [h40])
          clear HRR
          go_wp2_with fail
          go_ret
          exact ⟨⟨by rw [HE.out]; rfl, HF2.out.b⟩, fun r m h => by rw [HE.out] at h; cases h⟩
        · have g40 : ¬ n > 40 := h40
          have HE := hide (show (match fIs kids r m with | none => none | some p => fIs (l.drop (k + 1)) p.1 p.2) = res by rw [← HRR.out]; simp [h40])
          have HC := hide (HIH.out kids HSZ.out r m a c a2 c2 ks kn w0 w2 HROW.out HK1.out HK2.out hkk HF2.out hm1 hm2)
          obtain ⟨fr, hfr⟩ : ∃ fr, fIs kids r m = fr := ⟨_, rfl⟩
          rw [hfr] at HC HE
          have HFR := hide hfr
          clear HRR hfr h40
          go_wp2_with fail
          refine HC.out.mono ?_
          rintro e w5 ⟨⟨rfl, hb5⟩, hc5⟩
          have HB5 := hide hb5
          have HC5 := hide hc5
          clear hb5 hc5
          cases fr with
          | none =>
            go_wp2_with fail
            go_ret
            exact ⟨⟨by rw [← HE.out]; rfl, HB5.out⟩, fun r m h => by rw [← HE.out] at h; cases h⟩
          | some p =>
            obtain ⟨r5, m5⟩ := p
            obtain ⟨a5, c5, hf5⟩ := HC5.out r5 m5 rfl
            have HF5 := hide hf5
            have hle := fI_le.fIs_le kids r m _ HFR.out
            have HLE := hide hle
            clear hf5 hle
            go_wp2_with fail
            go_roundg (l.length - (k + 1))
            case measure => rw [hu.out]; omega
            case rel => exact ⟨k + 1, r5, m5, a5, c5, hide rfl, by go_num, hide ⟨HF5.out, hlt, HE.out, by have := HLE.out.1; omega, by have := HLE.out.2; omega⟩⟩
      by_cases h1 : kd = 1
      · subst h1
        cases r with
        | nil =>
          have HE := hide (show res = none by rw [← HRR.out]; simp [fOne])
          have s0 := HF2.out.s.cell 0
          have sl := HF2.out.s.lt
          clear HRR
          go_wp2_with fail
          go_ret
          exact ⟨⟨by rw [HE.out]; rfl, HF2.out.b⟩, fun r m h => by rw [HE.out] at h; cases h⟩
        | cons s r =>
          obtain ⟨bs, os, rfl, hbs, hats⟩ := HF2.out.rw_.get (k := 0) (by simp)
          have hs0 := hats 0 (by simp)
          rw [Nat.zero_mul, Nat.add_zero] at hs0
          obtain ⟨y0, y1, y2, y3, y4, y5, y6, y7⟩ := hs0.cells
          replace y0 := (HF2.out.b.cell (p := ⟨bs, os, none⟩) hbs).trans y0
          replace y1 := (HF2.out.b.cell (p := ⟨bs, os + 1, none⟩) hbs).trans y1
          replace y2 := (HF2.out.b.cell (p := ⟨bs, os + 2, none⟩) hbs).trans y2
          replace y3 := (HF2.out.b.cell (p := ⟨bs, os + 3, none⟩) hbs).trans y3
          replace y4 := (HF2.out.b.cell (p := ⟨bs, os + 4, none⟩) hbs).trans y4
          replace y5 := (HF2.out.b.cell (p := ⟨bs, os + 5, none⟩) hbs).trans y5
          replace y6 := (HF2.out.b.cell (p := ⟨bs, os + 6, none⟩) hbs).trans y6
          replace y7 := (HF2.out.b.cell (p := ⟨bs, os + 7, none⟩) hbs).trans y7
          have hbw := Nat.lt_of_lt_of_le hbs HF2.out.b.size
          have hbk : bs < ks := Nat.lt_of_lt_of_le hbs HK1.out
          have hbk1 : bs ≠ ks := by omega
          have hbk2 : ks ≠ bs := by omega
          have hbx : bs < kx := by have := HKX.out; omega
          have hcc := HF2.out.cc
          rw [List.length_cons] at hcc hm2
          have HTL := hide (show Row SyAt 8 r (if c = 1 then some ⟨bs, os, none⟩ else some ⟨bs, os + 8, none⟩) w0 from ⟨by have := HF2.out.rw_.1; simp at this; omega, fun hn => by
            have hl : 0 < r.length := List.length_pos_iff.2 hn
            rw [if_neg (by omega)]
            exact ⟨bs, os + 8, rfl, hbs, fun i hi => by have := hats (i + 1) (by simp; omega); rw [show os + (i + 1) * 8 = os + 8 + i * 8 by omega] at this; exact this⟩⟩)
          have s0 := HF2.out.s.cell 0
          have s1 := HF2.out.s.free 0
          have sl := HF2.out.s.lt
          have n0 := HF2.out.n.cell 0
          have n1 := HF2.out.n.free 0
          have nl := HF2.out.n.lt
          go_upto_region 15 with fail
          obtain ⟨ta, hta⟩ : ∃ ta, (if c = 1 then (some ⟨bs, os, none⟩ : Option Addr) else some ⟨bs, os + 8, none⟩) = ta := ⟨_, rfl⟩
          rw [hta] at HTL
          simp only [hta]
          clear hta
          obtain ⟨w3, hw3⟩ : ∃ w3, (w2.setCell ⟨ks, 0, none⟩ (.slice ta r.length (c - 1))).alloc (.cells #[.int .i64 s.kind, .string s.text, .int .u64 (s.set.w0 : Int), .int .u64 (s.set.w1 : Int), .int .u64 (s.set.w2 : Int), .int .u64 (s.set.w3 : Int), .string s.name, .string s.sep] 61) = w3 := ⟨_, rfl⟩
          obtain ⟨ky, hky⟩ : ∃ ky, w2.heap.size = ky := ⟨_, rfl⟩
          have hbs2 := HF2.out.b.setCell (p := ⟨ks, 0, none⟩) HK1.out (.slice ta r.length (c - 1))
          have HF3 := hide (show FiC w0 ks kn r m ta (c - 1) w3 by rw [← hw3]; exact ⟨hbs2.alloc hbs2.size _, (HF2.out.s.set 0 (.slice ta r.length (c - 1))).alloc _, (HF2.out.n.other hkk2).alloc _, HTL.out, by omega⟩)
          have hkxs : kx ≠ ks := by have := HKX.out; omega
          have HX3 := hide (show Blk w3 kx #[.int .i64 1, .string t, .int .i64 n, .slice a2 kids.length c2] 96 by rw [← hw3]; exact (HX2.out.other hkxs).alloc _)
          have HY3 := hide (show Blk w3 ky #[.int .i64 s.kind, .string s.text, .int .u64 (s.set.w0 : Int), .int .u64 (s.set.w1 : Int), .int .u64 (s.set.w2 : Int), .int .u64 (s.set.w3 : Int), .string s.name, .string s.sep] 61 by rw [← hw3, ← hky]; have := Blk.new (w2.setCell ⟨ks, 0, none⟩ (.slice ta r.length (c - 1))) #[.int .i64 s.kind, .string s.text, .int .u64 (s.set.w0 : Int), .int .u64 (s.set.w1 : Int), .int .u64 (s.set.w2 : Int), .int .u64 (s.set.w3 : Int), .string s.name, .string s.sep] 61; rw [size_setCell] at this; exact this)
          have hkny : kn ≠ ky := by omega
          have hkyn : ky ≠ kn := by omega
          have hknx : kn ≠ kx := by have := HKX.out; omega
          have hkxn : kx ≠ kn := by have := HKX.out; omega
          rw [hw3, hky]
          clear hw3 hky hbs2 x0 x1 x2 x3 xl y0 y1 y2 y3 y4 y5 y6 y7 s0 s1 sl n0 n1 nl hbw hbk hbk1 hbk2 hbx hs0 hats hbs
          have x0 := HX3.out.cell 0
          have x1 := HX3.out.cell 1
          have x2 := HX3.out.cell 2
          have x3 := HX3.out.cell 3
          have xl := HX3.out.lt
          have z0 := HY3.out.cell 0
          have z1 := HY3.out.cell 1
          have zl := HY3.out.lt
          have n0 := HF3.out.n.cell 0
          have n1 := HF3.out.n.free 0
          have nl := HF3.out.n.lt
          by_cases hs1 : s.kind = 1
          · have q1 : (s.kind == 1) = true := by simpa using hs1
            have q2 : (s.kind != 1) = false := by simpa using hs1
            by_cases ht : s.text = t
            · have ht1 : s.text.toList = t.toList := by rw [ht]
              have HE := hide (show fIs (l.drop (k + 1)) r m = res by rw [← HRR.out]; simp [fOne, hs1, ht])
              clear HRR hs1 ht
              go_wp2_with fail
              go_roundg (l.length - (k + 1))
              case measure => rw [hu.out]; omega
              case rel => exact ⟨k + 1, r, m, ta, c - 1, hide rfl, by go_num, hide ⟨HF3.out, hlt, HE.out, hm1, by omega⟩⟩
            · have ht1 : ¬ s.text.toList = t.toList := fun h => ht ((toList_eq_iff _ _).1 h)
              have ht2 : (!s.text.toList == t.toList) = true := by rw [beq_eq_false_iff_ne.2 ht1]; rfl
              have HE := hide (show res = none by rw [← HRR.out]; simp [fOne, hs1, ht])
              clear HRR hs1 ht
              go_wp2_with fail
              go_ret
              exact ⟨⟨by rw [HE.out]; rfl, HF3.out.b⟩, fun r m h => by rw [HE.out] at h; cases h⟩
          · have q1 : (s.kind == 1) = false := by simpa using hs1
            have q2 : (s.kind != 1) = true := by simpa using hs1
            have HE := hide (show res = none by rw [← HRR.out]; simp [fOne, hs1])
            clear HRR hs1
            go_wp2_with fail
            go_ret
            exact ⟨⟨by rw [HE.out]; rfl, HF3.out.b⟩, fun r m h => by rw [HE.out] at h; cases h⟩
      by_cases h2 : kd = 2
      · subst h2
        cases r with
        | nil =>
          have HE := hide (show res = none by rw [← HRR.out]; simp [fOne])
          have s0 := HF2.out.s.cell 0
          have sl := HF2.out.s.lt
          clear HRR
          go_wp2_with fail
          go_ret
          exact ⟨⟨by rw [HE.out]; rfl, HF2.out.b⟩, fun r m h => by rw [HE.out] at h; cases h⟩
        | cons s r =>
          obtain ⟨bs, os, rfl, hbs, hats⟩ := HF2.out.rw_.get (k := 0) (by simp)
          have hs0 := hats 0 (by simp)
          rw [Nat.zero_mul, Nat.add_zero] at hs0
          obtain ⟨y0, y1, y2, y3, y4, y5, y6, y7⟩ := hs0.cells
          replace y0 := (HF2.out.b.cell (p := ⟨bs, os, none⟩) hbs).trans y0
          replace y1 := (HF2.out.b.cell (p := ⟨bs, os + 1, none⟩) hbs).trans y1
          replace y2 := (HF2.out.b.cell (p := ⟨bs, os + 2, none⟩) hbs).trans y2
          replace y3 := (HF2.out.b.cell (p := ⟨bs, os + 3, none⟩) hbs).trans y3
          replace y4 := (HF2.out.b.cell (p := ⟨bs, os + 4, none⟩) hbs).trans y4
          replace y5 := (HF2.out.b.cell (p := ⟨bs, os + 5, none⟩) hbs).trans y5
          replace y6 := (HF2.out.b.cell (p := ⟨bs, os + 6, none⟩) hbs).trans y6
          replace y7 := (HF2.out.b.cell (p := ⟨bs, os + 7, none⟩) hbs).trans y7
          have hbw := Nat.lt_of_lt_of_le hbs HF2.out.b.size
          have hbk : bs < ks := Nat.lt_of_lt_of_le hbs HK1.out
          have hbk1 : bs ≠ ks := by omega
          have hbk2 : ks ≠ bs := by omega
          have hbx : bs < kx := by have := HKX.out; omega
          have hcc := HF2.out.cc
          rw [List.length_cons] at hcc hm2
          have HTL := hide (show Row SyAt 8 r (if c = 1 then some ⟨bs, os, none⟩ else some ⟨bs, os + 8, none⟩) w0 from ⟨by have := HF2.out.rw_.1; simp at this; omega, fun hn => by
            have hl : 0 < r.length := List.length_pos_iff.2 hn
            rw [if_neg (by omega)]
            exact ⟨bs, os + 8, rfl, hbs, fun i hi => by have := hats (i + 1) (by simp; omega); rw [show os + (i + 1) * 8 = os + 8 + i * 8 by omega] at this; exact this⟩⟩)
          have s0 := HF2.out.s.cell 0
          have s1 := HF2.out.s.free 0
          have sl := HF2.out.s.lt
          have n0 := HF2.out.n.cell 0
          have n1 := HF2.out.n.free 0
          have nl := HF2.out.n.lt
          go_upto_region 15 with fail
          obtain ⟨ta, hta⟩ : ∃ ta, (if c = 1 then (some ⟨bs, os, none⟩ : Option Addr) else some ⟨bs, os + 8, none⟩) = ta := ⟨_, rfl⟩
          rw [hta] at HTL
          simp only [hta]
          clear hta
          obtain ⟨w3, hw3⟩ : ∃ w3, (w2.setCell ⟨ks, 0, none⟩ (.slice ta r.length (c - 1))).alloc (.cells #[.int .i64 s.kind, .string s.text, .int .u64 (s.set.w0 : Int), .int .u64 (s.set.w1 : Int), .int .u64 (s.set.w2 : Int), .int .u64 (s.set.w3 : Int), .string s.name, .string s.sep] 61) = w3 := ⟨_, rfl⟩
          obtain ⟨ky, hky⟩ : ∃ ky, w2.heap.size = ky := ⟨_, rfl⟩
          have hbs2 := HF2.out.b.setCell (p := ⟨ks, 0, none⟩) HK1.out (.slice ta r.length (c - 1))
          have HF3 := hide (show FiC w0 ks kn r m ta (c - 1) w3 by rw [← hw3]; exact ⟨hbs2.alloc hbs2.size _, (HF2.out.s.set 0 (.slice ta r.length (c - 1))).alloc _, (HF2.out.n.other hkk2).alloc _, HTL.out, by omega⟩)
          have hkxs : kx ≠ ks := by have := HKX.out; omega
          have HX3 := hide (show Blk w3 kx #[.int .i64 2, .string t, .int .i64 n, .slice a2 kids.length c2] 96 by rw [← hw3]; exact (HX2.out.other hkxs).alloc _)
          have HY3 := hide (show Blk w3 ky #[.int .i64 s.kind, .string s.text, .int .u64 (s.set.w0 : Int), .int .u64 (s.set.w1 : Int), .int .u64 (s.set.w2 : Int), .int .u64 (s.set.w3 : Int), .string s.name, .string s.sep] 61 by rw [← hw3, ← hky]; have := Blk.new (w2.setCell ⟨ks, 0, none⟩ (.slice ta r.length (c - 1))) #[.int .i64 s.kind, .string s.text, .int .u64 (s.set.w0 : Int), .int .u64 (s.set.w1 : Int), .int .u64 (s.set.w2 : Int), .int .u64 (s.set.w3 : Int), .string s.name, .string s.sep] 61; rw [size_setCell] at this; exact this)
          have hkny : kn ≠ ky := by omega
          have hkyn : ky ≠ kn := by omega
          have hknx : kn ≠ kx := by have := HKX.out; omega
          have hkxn : kx ≠ kn := by have := HKX.out; omega
          rw [hw3, hky]
          clear hw3 hky hbs2 x0 x1 x2 x3 xl y0 y1 y2 y3 y4 y5 y6 y7 s0 s1 sl n0 n1 nl hbw hbk hbk1 hbk2 hbx hs0 hats hbs
          have x0 := HX3.out.cell 0
          have x1 := HX3.out.cell 1
          have x2 := HX3.out.cell 2
          have x3 := HX3.out.cell 3
          have xl := HX3.out.lt
          have z0 := HY3.out.cell 0
          have z1 := HY3.out.cell 1
          have zl := HY3.out.lt
          have n0 := HF3.out.n.cell 0
          have n1 := HF3.out.n.free 0
          have nl := HF3.out.n.lt
          go_upto_region 19 with fail
          obtain ⟨w4, hw4⟩ : ∃ w4, w3.setCell ⟨kn, 0, none⟩ (.int .i64 (m + 1)) = w4 := ⟨_, rfl⟩
          have HF4 := hide (show FiC w0 ks kn r (m + 1) ta (c - 1) w4 by rw [← hw4]; exact ⟨HF3.out.b.setCell (p := ⟨kn, 0, none⟩) HK2.out _, HF3.out.s.other hkk, HF3.out.n.set 0 _, HF3.out.rw_, HF3.out.cc⟩)
          have HX4 := hide (show Blk w4 kx #[.int .i64 2, .string t, .int .i64 n, .slice a2 kids.length c2] 96 by rw [← hw4]; exact HX3.out.other hkxn)
          have HY4 := hide (show Blk w4 ky #[.int .i64 s.kind, .string s.text, .int .u64 (s.set.w0 : Int), .int .u64 (s.set.w1 : Int), .int .u64 (s.set.w2 : Int), .int .u64 (s.set.w3 : Int), .string s.name, .string s.sep] 61 by rw [← hw4]; exact HY3.out.other hkyn)
          rw [hw4]
          clear hw4 x0 x1 x2 x3 xl z0 z1 zl n0 n1 nl
          have x2 := HX4.out.cell 2
          have xl := HX4.out.lt
          have z0 := HY4.out.cell 0
          have zl := HY4.out.lt
          have n0 := HF4.out.n.cell 0
          have nl := HF4.out.n.lt
          by_cases hs1 : s.kind = 1
          · have q1 : (s.kind == 1) = true := by simpa using hs1
            have HE := hide (show res = none by rw [← HRR.out]; simp [fOne, hs1])
            clear HRR hs1
            go_quiet (fail)
            go_wp2_with fail
            go_ret
            exact ⟨⟨by rw [HE.out]; rfl, HF4.out.b.trans ⟨rfl, rfl, rfl, Nat.le_refl _, fun _ _ => rfl⟩⟩, fun r m h => by rw [HE.out] at h; cases h⟩
          · have q1 : (s.kind == 1) = false := by simpa using hs1
            by_cases hnm : n = m + 1
            · have hn2 : (n == m + 1) = true := by simpa using hnm
              have hn3 : (n != m + 1) = false := by simpa using hnm
              have HE := hide (show fIs (l.drop (k + 1)) r (m + 1) = res by rw [← HRR.out]; simp [fOne, hs1, hnm])
              clear HRR hs1
              go_quiet (fail)
              go_wp2_with fail
              go_roundg (l.length - (k + 1))
              case measure => rw [hu.out]; omega
              case rel => exact ⟨k + 1, r, m + 1, ta, c - 1, hide rfl, by go_num, hide ⟨⟨HF4.out.b.trans ⟨rfl, rfl, rfl, Nat.le_refl _, fun _ _ => rfl⟩, HF4.out.s, HF4.out.n, HF4.out.rw_, HF4.out.cc⟩, hlt, HE.out, by omega, by omega⟩⟩
            · have hn2 : (n == m + 1) = false := by simpa using hnm
              have hn3 : (n != m + 1) = true := by simpa using hnm
              have HE := hide (show res = none by rw [← HRR.out]; simp [fOne, hs1, hnm])
              clear HRR hs1
              go_quiet (fail)
              go_wp2_with fail
              go_ret
              exact ⟨⟨by rw [HE.out]; rfl, HF4.out.b.trans ⟨rfl, rfl, rfl, Nat.le_refl _, fun _ _ => rfl⟩⟩, fun r m h => by rw [HE.out] at h; cases h⟩
      have n5 : (kd == 5) = false := by simpa using h5
      have n6 : (kd == 6) = false := by simpa using h6
      have n1 : (kd == 1) = false := by simpa using h1
      have n2 : (kd == 2) = false := by simpa using h2
      have HE := hide (show fIs (l.drop (k + 1)) r m = res by rw [← HRR.out]; simp [h1, h2, h5, h6])
      clear HRR h1 h2 h5 h6
      go_wp2_with fail
      go_roundg (l.length - (k + 1))
      case measure => rw [hu.out]; omega
      case rel => exact ⟨k + 1, r, m, a, c, hide rfl, by go_num, hide ⟨HF2.out, hlt, HE.out, hm1, hm2⟩⟩
    · have hlti : ¬ (k : Int) < (l.length : Int) := by omega
      have hrr := hh.out.rr
      rw [List.drop_eq_nil_of_le (by omega), fIs] at hrr
      have HRR := hide hrr
      clear hrr
      go_wp2_with fail
      go_ret
      refine ⟨⟨by rw [← HRR.out]; rfl, hh.out.f.b⟩, fun r m h => ?_⟩
      rw [← HRR.out] at h
      injection h with h
      injection h with h1 h2
      subst h1; subst h2
      exact ⟨a, c, hh.out.f⟩
end Go.Proofs.Ytalicfpcmcbdbaa

set_option linter.unusedVariables false
set_option linter.unusedSimpArgs false
set_option linter.unnecessarySimpa false
set_option linter.deprecated false
namespace Go.Proofs.Ytalicfpcmcbdbaa
open Go.RowKit

def okR : Option (List Sy × Int) → Bool
  | some ([], _) => true
  | _ => false
def fitOk (p : Pd) (l : List It) : Bool := okR (fIs l p.syms 0)
def metB (d : Df) (k : Nat) : List ByteArray := (d.boxes.take k).map Bx.cons
/-- Is a template bad: of no constructor, a second one, or one that does not fit. -/
def boxHit (d : Df) (k : Nat) (x : Bx) : Bool := decide (consIdx d.prods x.cons < 0) || inB x.cons (metB d k) || !(match d.prods[(consIdx d.prods x.cons).toNat]? with | some p => fitOk p x.items | none => false)
def boxL (d : Df) : Int × ByteArray := firstI 52 (boxHit d) Bx.cons d.boxes 0
theorem metB_snoc (d : Df) (k : Nat) (h : k < d.boxes.length) : metB d (k + 1) = metB d k ++ [d.boxes[k].cons] := by
  unfold metB; rw [take_snoc _ _ h, List.map_append]; simp
theorem upd_self (f : ByteArray → Int) (s : ByteArray) (y : Int) : upd f s y s = y := by unfold upd; rw [if_pos rfl]
set_option maxHeartbeats 1600000 in
set_option maxRecDepth 100000 in
theorem box_any (d : Df) (a2 : Option Addr) (c2 : Nat) (a3 : Option Addr) (c3 : Nat) (a4 : Option Addr) (c4 : Nat) (a5 : Option Addr) (c5 : Nat) (a6 : Option Addr) (c6 : Nat) (as_ : Option Addr) (cs m n : Nat) (bb : Nat) (w : World) (hbk : Book d a2 c2 a3 c3 a4 c4 a5 c5 a6 c6 as_ cs m n bb w) (hsl : ∀ p ∈ d.prods, p.syms.length ≤ 100000) (hbl : d.boxes.length ≤ 100000) : Calls Try.prog 49 #[.pointer (some ⟨bb, 0, none⟩)] w fun e w' => e = .returned (.tuple #[.int .i64 ((boxL d).1), .string ((boxL d).2)]) ∧ Below w.heap.size w w' := by
  have hmm := @run_makeMap Try.prog
  have bk0 := hbk.bk.cell 0
  have bk1 := hbk.bk.cell 1
  have bk2 := hbk.bk.cell 2
  have bk3 := hbk.bk.cell 3
  have bk4 := hbk.bk.cell 4
  have bk5 := hbk.bk.cell 5
  have bk6 := hbk.bk.cell 6
  have bk7 := hbk.bk.cell 7
  have bk8 := hbk.bk.cell 8
  have bkl := hbk.bk.lt
  have HBK := hide hbk
  clear hbk
  have HSL := hide hsl
  have HBL := hide hbl
  have hln := HBK.out.rd.x.1
  obtain ⟨res, hres⟩ : ∃ r, boxL d = r := ⟨_, rfl⟩
  have HRES := hide hres
  rw [hres]
  have HM0 := hide (MapF.made w)
  have HB1 := hide ((Below.refl w.heap.size w).alloc (Nat.le_refl _) (.map #[] 0))
  clear hres hsl hbl
  go_enter Try.func49, Try.ntmps49
  go_wp2_with fail
  clear bk0 bk1 bk2 bk3 bk4 bk5 bk6 bk7 bk8 bkl
  obtain ⟨mb, hmb⟩ : ∃ mb, w.heap.size = mb := ⟨_, rfl⟩
  obtain ⟨w1, hw1⟩ : ∃ w1, w.alloc (.map #[] 0) = w1 := ⟨_, rfl⟩
  rw [hmb, hw1] at HM0
  rw [hw1] at HB1
  rw [hw1, hmb]
  have HMB := hide (show w.heap.size ≤ mb by omega)
  clear hmb hw1
  go_loopg [17] d.boxes.length (fun u v17 wr => ∃ k : Nat, Hid (u = d.boxes.length - k) ∧ v17 = .int .i64 (k : Int) ∧ Hid (k ≤ d.boxes.length ∧ Below w.heap.size w wr ∧ MapF wr mb k (metF (metB d k)) ∧ ∀ j (h : j < d.boxes.length), j < k → boxHit d (0 + j) d.boxes[j] = false))
  case atStart => exact ⟨0, hide rfl, rfl, hide ⟨Nat.zero_le _, HB1.out, by rw [show metB d 0 = [] from rfl, metF_nil]; exact HM0.out, fun j _ h => by omega⟩⟩
  case round =>
    obtain ⟨k, hu, rfl, hh⟩ := hrel
    have hkl := hh.out.1
    by_cases hlt : k < d.boxes.length
    · have hlti : (k : Int) < (d.boxes.length : Int) := by omega
      obtain ⟨b, o, rfl, hb, hat⟩ := HBK.out.rd.x.get hlt
      have hx := hat k hlt
      have HNX := hide (fun (h : boxHit d k d.boxes[k] = false) => none_nextI (f := boxHit d) (l := d.boxes) (k := k) hh.out.2.2.2 (fun _ => rfl) h)
      have HHI := hide (fun (h : boxHit d k d.boxes[k] = true) => firstI_hit 52 (boxHit d) Bx.cons d.boxes 0 k hlt hh.out.2.2.2 (by rw [Nat.zero_add]; exact h))
      have HMS := hide (metB_snoc d k hlt)
      generalize d.boxes[k] = x at hx HNX HHI HMS
      clear hat
      obtain ⟨cons, items⟩ := x
      obtain ⟨hsh, ai, ci0, ⟨e0, e1⟩, hrow⟩ := hx.cells
      replace e0 := (hh.out.2.1.cell (p := ⟨b, o + k * 2, none⟩) hb).trans e0
      replace e1 := (hh.out.2.1.cell (p := ⟨b, o + k * 2 + 1, none⟩) hb).trans e1
      have hb2 : b < wr.heap.size := Nat.lt_of_lt_of_le hb hh.out.2.1.size
      have HSH := hide (show short cons from hsh)
      have HROW := hide (show Row ItAt 4 items ai w from hrow)
      have hki : k ≤ 100000 := by have := HBL.out; omega
      have HM := hide hh.out.2.2.1
      have HBW := hide hh.out.2.1
      clear hx hrow hsh hh
      go_upto_region 5 with fail
      obtain ⟨w6, h6⟩ : ∃ w6, wr.alloc (.cells #[.string cons, .slice ai items.length ci0] 53) = w6 := ⟨_, rfl⟩
      obtain ⟨kx, hkx⟩ : ∃ kx, wr.heap.size = kx := ⟨_, rfl⟩
      have HB6 := hide (show Below w.heap.size w w6 by rw [← h6]; exact HBW.out.alloc HBW.out.size _)
      have HX6 := hide (show Blk w6 kx #[.string cons, .slice ai items.length ci0] 53 by rw [← h6, ← hkx]; exact Blk.new wr _ _)
      have HM6 := hide (show MapF w6 mb k (metF (metB d k)) by rw [← h6]; exact HM.out.below ((Below.refl _ _).alloc (Nat.le_refl _) _))
      have HBK6 := hide (HBK.out.below HB6.out)
      have HC := hide (Cons_at d a2 c2 a3 c3 a4 c4 a5 c5 (some ⟨b, o, none⟩) c6 cons w6.drew (HBK6.out.rd.p.below PdAt.stable (Below.refl _ _).drew))
      rw [h6, hkx]
      clear h6 hkx e0 e1 hb hb2
      have x0 := HX6.out.cell 0
      have x1 := HX6.out.cell 1
      have xl := HX6.out.lt
      have bk0 := HBK6.out.bk.cell 0
      have bk1 := HBK6.out.bk.cell 1
      have bk2 := HBK6.out.bk.cell 2
      have bk3 := HBK6.out.bk.cell 3
      have bk4 := HBK6.out.bk.cell 4
      have bk5 := HBK6.out.bk.cell 5
      have bk6 := HBK6.out.bk.cell 6
      have bkl := HBK6.out.bk.lt
      obtain ⟨ci, hci⟩ : ∃ ci, consIdx d.prods cons = ci := ⟨_, rfl⟩
      rw [hci] at HC
      have HCI := hide hci
      clear hci
      go_still_tail 6, (by kernel_rfl)
      change wpList _ _ _ _ _ w6.drew
      go_wp2_with fail
      refine HC.out.mono ?_
      rintro e w7 ⟨rfl, hb7⟩
      have hb67 : Below w6.heap.size w6 w7 := below_next (Below.refl w6.heap.size w6).drew hb7
      have HB7 := hide (below_next HB6.out hb67)
      have HX7 := hide (HX6.out.below hb67)
      have HM7 := hide (HM6.out.below hb67)
      clear x0 x1 xl bk0 bk1 bk2 bk3 bk4 bk5 bk6 bkl hb7 hb67
      have x0 := HX7.out.cell 0
      have xl := HX7.out.lt
      have hlk := HM7.out.look cons HSH.out
      obtain ⟨v0, hv⟩ : ∃ v0, metF (metB d k) cons = v0 := ⟨_, rfl⟩
      have hv01 : (v0 = 0 ∧ inB cons (metB d k) = false) ∨ (v0 = 1 ∧ inB cons (metB d k) = true) := by
        rw [← hv]
        unfold metF
        cases inB cons (metB d k)
        · exact Or.inl ⟨rfl, rfl⟩
        · exact Or.inr ⟨rfl, rfl⟩
      rw [hv] at hlk
      have HV := hide hv01
      have hk6 : k < 1000000 := by omega
      clear hv hv01
      have hvc : v0 = 0 ∨ v0 = 1 := HV.out.elim (fun h => Or.inl h.1) (fun h => Or.inr h.1)
      have fin : ∀ (y : Int), y = v0 + 1 → ∀ w8, MapF w8 mb (k + 1) (upd (metF (metB d k)) cons y) → w7.grownBy w8 (some mb) → Hid (Below w.heap.size w w8 ∧ Blk w8 kx #[.string cons, .slice ai items.length ci0] 53 ∧ MapF w8 mb (k + 1) (upd (metF (metB d k)) cons y)) := fun y hy w8 hm8 hg8 =>
        hide ⟨HB7.out.grown hg8 HB7.out.size (fun g e => by injection e with e; rw [← e]; exact HMB.out), HX7.out.grown hg8 (fun e => HM7.out.ne_blk HX7.out (Option.some.inj e).symm), hm8⟩
      have HFIN := hide fin
      clear fin
      have HV0 := hide hvc
      rcases HV0.out with rfl | rfl
      · have HIN := hide (show inB cons (metB d k) = false from HV.out.elim (fun h => h.2) (fun h => absurd h.1 (by decide)))
        clear hvc
        by_cases h0 : ci < 0
        · have HF := hide (show res = (52, cons) by rw [← HRES.out]; exact HHI.out (by unfold boxHit; simp only [HCI.out]; simp [h0]))
          go_upto_region 6 with fail
          go_wp2_with (at_mapUpdate; refine wpList_update rfl _ _ _ rfl mb k (metF (metB d k)) rfl HM7.out hk6 cons HSH.out 1 (by decide) (by unfold i64; omega) rfl rfl ?_; intro w8 hm8 hg8; have H8 := hide (HFIN.out 1 rfl w8 hm8 hg8).out; clear hm8 hg8; have hl8 := H8.out.2.2.look cons HSH.out; rw [upd_self] at hl8; have y0 := H8.out.2.1.cell 0; have y1 := H8.out.2.1.cell 1; have yl := H8.out.2.1.lt; clear x0 xl hlk)
          go_upto_region 8 with fail
          go_quiet (fail)
          go_wp2_with fail
          go_ret2
          exact ⟨by rw [HF.out]; rfl, H8.out.1.trans ⟨rfl, rfl, rfl, Nat.le_refl _, fun _ _ => rfl⟩⟩
        · obtain ⟨i, rfl⟩ : ∃ i : Nat, ci = (i : Int) := ⟨ci.toNat, by omega⟩
          have hil : i < d.prods.length := by
            have := consIdx_lt d.prods cons
            rw [HCI.out] at this
            omega
          obtain ⟨b5, o5, rfl, hb5, hat5⟩ := HBK.out.rd.p.get hil
          have hx5 := hat5 i hil
          have HGI := hide (List.getElem?_eq_getElem hil)
          have HSX := hide (HSL.out _ (List.getElem_mem hil))
          generalize d.prods[i] = pd at hx5 HGI HSX
          obtain ⟨ap, cp, q4, hrs, hcp⟩ := hx5.cap
          have HRS := hide hrs
          have hili : (i : Int) < (d.prods.length : Int) := by omega
          have HFT := hide (show boxHit d k ⟨cons, items⟩ = !fitOk pd items by
            unfold boxHit
            simp only [HCI.out, HIN.out, Int.toNat_natCast, HGI.out]
            rw [decide_eq_false h0]; rfl)
          clear hat5 hx5 hrs
          go_upto_region 6 with fail
          go_wp2_with (at_mapUpdate; refine wpList_update rfl _ _ _ rfl mb k (metF (metB d k)) rfl HM7.out hk6 cons HSH.out 1 (by decide) (by unfold i64; omega) rfl rfl ?_; intro w8 hm8 hg8; have H8 := hide (HFIN.out 1 rfl w8 hm8 hg8).out; clear hm8 hg8; have hl8 := H8.out.2.2.look cons HSH.out; rw [upd_self] at hl8; have y0 := H8.out.2.1.cell 0; have y1 := H8.out.2.1.cell 1; have yl := H8.out.2.1.lt; clear x0 xl hlk; have bk2 := (HBK.out.below H8.out.1).bk.cell 2; have bkl := (HBK.out.below H8.out.1).bk.lt; have q5 := (H8.out.1.cell (p := ⟨b5, o5 + i * 5 + 4, none⟩) hb5).trans q4; have hb58 := Nat.lt_of_lt_of_le hb5 H8.out.1.size; clear q4 hb5)
          have HFC := hide (show FiC w8 w8.heap.size (w8.heap.size + 1) pd.syms 0 ap cp ((w8.alloc (.cells #[.slice ap pd.syms.length cp] 36)).alloc (.cells #[.int .i64 0] 3)) from ⟨NB.alloc (NB.alloc (Below.refl _ _) _) _, (Blk.new w8 _ _).alloc _, NB.new1, HRS.out.below SyAt.stable H8.out.1, hcp⟩)
          have HC2 := hide (fits_all (SizeOf.sizeOf items + 1) items (Nat.lt_succ_self _) pd.syms 0 ap cp ai ci0 w8.heap.size (w8.heap.size + 1) w8 _ (HROW.out.below ItAt.stable H8.out.1) (Nat.le_refl _) (by omega) (by omega) HFC.out (by omega) (by have := HSX.out; omega))
          go_wp2_with fail
          refine HC2.out.mono ?_
          rintro e w9 ⟨⟨rfl, hb9⟩, hc9⟩
          have HB9 := hide (below_next H8.out.1 hb9)
          have HX9 := hide (H8.out.2.1.below hb9)
          have HM9 := hide (H8.out.2.2.below hb9)
          have HC9 := hide hc9
          have hlt8 := H8.out.2.1.lt
          clear y0 y1 yl bk2 bkl q5 hb58 hb9 hc9 hl8
          have x0 := HX9.out.cell 0
          have xl := HX9.out.lt
          obtain ⟨fr, hfr⟩ : ∃ fr, fIs items pd.syms 0 = fr := ⟨_, rfl⟩
          rw [hfr] at HC9 ⊢
          have HOK := hide (show fitOk pd items = okR fr by unfold fitOk; rw [hfr])
          clear hfr
          match fr, HC9, HOK with
          | none, HC9, HOK =>
            have HF := hide (show res = (52, cons) by rw [← HRES.out]; exact HHI.out (by rw [HFT.out, HOK.out]; rfl))
            go_upto_region 12 with fail
            go_quiet (fail)
            go_wp2_with fail
            go_ret2
            exact ⟨by rw [HF.out]; rfl, HB9.out.trans ⟨rfl, rfl, rfl, Nat.le_refl _, fun _ _ => rfl⟩⟩
          | some ([], m9), HC9, HOK =>
            obtain ⟨a9, c9, hf9⟩ := HC9.out [] m9 rfl
            have s0 := hf9.s.cell 0
            have sl := hf9.s.lt
            have HN := hide (HNX.out (by rw [HFT.out, HOK.out]; rfl))
            clear hf9
            go_wp2_with fail
            go_roundg (d.boxes.length - (k + 1))
            case measure => rw [hu.out]; omega
            case rel => exact ⟨k + 1, hide rfl, by go_num, hide ⟨hlt, HB9.out, by rw [HMS.out, metF_add]; exact HM9.out, HN.out⟩⟩
          | some (s :: r, m9), HC9, HOK =>
            obtain ⟨a9, c9, hf9⟩ := HC9.out (s :: r) m9 rfl
            have s0 := hf9.s.cell 0
            have sl := hf9.s.lt
            have hpos : ((s :: r).length : Int) > 0 := by simp only [List.length_cons]; omega
            have HF := hide (show res = (52, cons) by rw [← HRES.out]; exact HHI.out (by rw [HFT.out, HOK.out]; rfl))
            clear hf9
            generalize (s :: r).length = ln at s0 hpos
            go_upto_region 12 with fail
            go_quiet (fail)
            go_wp2_with fail
            go_ret2
            exact ⟨by rw [HF.out]; rfl, HB9.out.trans ⟨rfl, rfl, rfl, Nat.le_refl _, fun _ _ => rfl⟩⟩
      · have hin : inB cons (metB d k) = true := HV.out.elim (fun h => absurd h.1 (by decide)) (fun h => h.2)
        have HF := hide (show res = (52, cons) by rw [← HRES.out]; exact HHI.out (by unfold boxHit; simp [hin]))
        clear hin hvc
        by_cases h0 : ci < 0
        · go_upto_region 6 with fail
          go_wp2_with (at_mapUpdate; refine wpList_update rfl _ _ _ rfl mb k (metF (metB d k)) rfl HM7.out hk6 cons HSH.out 2 (by decide) (by unfold i64; omega) rfl rfl ?_; intro w8 hm8 hg8; have H8 := hide (HFIN.out 2 rfl w8 hm8 hg8).out; clear hm8 hg8; have hl8 := H8.out.2.2.look cons HSH.out; rw [upd_self] at hl8; have y0 := H8.out.2.1.cell 0; have y1 := H8.out.2.1.cell 1; have yl := H8.out.2.1.lt; clear x0 xl hlk)
          go_upto_region 8 with fail
          go_quiet (fail)
          go_wp2_with fail
          go_ret2
          exact ⟨by rw [HF.out]; rfl, H8.out.1.trans ⟨rfl, rfl, rfl, Nat.le_refl _, fun _ _ => rfl⟩⟩
        · go_upto_region 6 with fail
          go_wp2_with (at_mapUpdate; refine wpList_update rfl _ _ _ rfl mb k (metF (metB d k)) rfl HM7.out hk6 cons HSH.out 2 (by decide) (by unfold i64; omega) rfl rfl ?_; intro w8 hm8 hg8; have H8 := hide (HFIN.out 2 rfl w8 hm8 hg8).out; clear hm8 hg8; have hl8 := H8.out.2.2.look cons HSH.out; rw [upd_self] at hl8; have y0 := H8.out.2.1.cell 0; have y1 := H8.out.2.1.cell 1; have yl := H8.out.2.1.lt; clear x0 xl hlk)
          go_upto_region 8 with fail
          go_quiet (fail)
          go_wp2_with fail
          go_ret2
          exact ⟨by rw [HF.out]; rfl, H8.out.1.trans ⟨rfl, rfl, rfl, Nat.le_refl _, fun _ _ => rfl⟩⟩
    · have hlti : ¬ (k : Int) < (d.boxes.length : Int) := by omega
      have HF := hide (show res = okL by rw [← HRES.out]; exact firstI_miss 52 (boxHit d) Bx.cons d.boxes 0 (fun j h => hh.out.2.2.2 j h (by omega)))
      go_wp2_with fail
      go_ret2
      exact ⟨by rw [HF.out]; rfl, hh.out.2.1⟩
end Go.Proofs.Ytalicfpcmcbdbaa

set_option linter.unusedVariables false
set_option linter.unusedSimpArgs false
set_option linter.unnecessarySimpa false
set_option linter.deprecated false
namespace Go.Proofs.Ytalicfpcmcbdbaa
open Go.RowKit

/-- A look: a function, what it holds, and what it answers. -/
structure En where
  g : Nat
  lb : Array Value
  r : Int × ByteArray
def fv (x : En) : Value := .func (.func x.g) #[] x.lb
def FvAt (x : En) (b o : Nat) (W : World) : Prop := W.cell? ⟨b, o, none⟩ = some (.func (.func x.g) #[] x.lb)
theorem FvAt.stable : Stable FvAt := fun _ _ _ _ _ hb hlt h => (hb.cell (p := ⟨_, _, none⟩) hlt).trans h
/-- The first look that finds a fault. -/
def runC : List (Int × ByteArray) → Int × ByteArray
  | [] => okL
  | x :: r => if x.1 = 0 then runC r else x
theorem runC_hit : ∀ (l : List En) (k : Nat) (hk : k < l.length), (∀ j (h : j < l.length), j < k → l[j].r.1 = 0) → l[k].r.1 ≠ 0 → runC (l.map En.r) = l[k].r
  | [], k, hk, _, _ => absurd hk (by simp)
  | x :: xs, 0, hk, _, hp => by
    have hp : x.r.1 ≠ 0 := hp
    rw [List.map_cons, runC, if_neg hp]; rfl
  | x :: xs, k + 1, hk, hf, hp => by
    have h0 : x.r.1 = 0 := hf 0 (by simp) (by omega)
    rw [List.map_cons, runC, if_pos h0]
    exact runC_hit xs k (by simpa using hk) (fun j h hj => by have := hf (j + 1) (by simpa using h) (by omega); simpa using this) (by simpa using hp)
theorem runC_miss : ∀ (l : List En), (∀ j (h : j < l.length), l[j].r.1 = 0) → runC (l.map En.r) = okL
  | [], _ => rfl
  | x :: xs, hf => by
    have h0 : x.r.1 = 0 := hf 0 (by simp)
    rw [List.map_cons, runC, if_pos h0]
    exact runC_miss xs (fun j h => by have := hf (j + 1) (by simpa using h); simpa using this)
/-- A look does what it says. -/
structure En.Ok (bb : Nat) (w : World) (x : En) : Prop where
  e : ∀ args w, (callFunc x.g args).run Try.prog w = .ok (.enter x.g args) w
  c : ∀ W, Below w.heap.size w W → Calls Try.prog x.g (#[.pointer (some ⟨bb, 0, none⟩)] ++ x.lb) W fun e w' => e = .returned (.tuple #[.int .i64 x.r.1, .string x.r.2]) ∧ Below W.heap.size W w'
/-- The looks, but for reject. -/
def looksL (d : Df) (cy rj : Int × ByteArray) : List (Int × ByteArray) := [formL d, mixedL d, endsL d, undefL d, firstG 44 (kindB d) Pd.sort d.prods, consLk d, firstG 46 bracketB Pd.sort d.prods, firstG 2 (longB d) Pd.sort d.prods, firstG 47 nullB Pd.sort d.prods, cy, rj, prioL d, followL d, boxL d]
def lkL (d : Df) (cy rj : Int × ByteArray) (f1 e1 f2 e2 f3 e3 f4 e4 : Nat) : List En :=
  [⟨35, #[], formL d⟩, ⟨36, #[], mixedL d⟩, ⟨37, #[], endsL d⟩, ⟨38, #[], undefL d⟩,
   ⟨69, #[.pointer (some ⟨f1, 0, none⟩), .pointer (some ⟨e1, 0, none⟩)], firstG 44 (kindB d) Pd.sort d.prods⟩, ⟨41, #[], consLk d⟩,
   ⟨69, #[.pointer (some ⟨f2, 0, none⟩), .pointer (some ⟨e2, 0, none⟩)], firstG 46 bracketB Pd.sort d.prods⟩,
   ⟨69, #[.pointer (some ⟨f3, 0, none⟩), .pointer (some ⟨e3, 0, none⟩)], firstG 2 (longB d) Pd.sort d.prods⟩,
   ⟨69, #[.pointer (some ⟨f4, 0, none⟩), .pointer (some ⟨e4, 0, none⟩)], firstG 47 nullB Pd.sort d.prods⟩,
   ⟨45, #[], cy⟩, ⟨46, #[], rj⟩, ⟨47, #[], prioL d⟩, ⟨48, #[], followL d⟩, ⟨49, #[], boxL d⟩]
theorem lkL_r (d : Df) (cy rj : Int × ByteArray) (f1 e1 f2 e2 f3 e3 f4 e4 : Nat) : (lkL d cy rj f1 e1 f2 e2 f3 e3 f4 e4).map En.r = looksL d cy rj := rfl
set_option maxHeartbeats 800000 in
set_option maxRecDepth 100000 in
theorem check_at (d : Df) (a2 : Option Addr) (c2 : Nat) (a3 : Option Addr) (c3 : Nat) (a4 : Option Addr) (c4 : Nat) (a5 : Option Addr) (c5 : Nat) (a6 : Option Addr) (c6 : Nat) (cy rj : Int × ByteArray) (w : World) (hd : RD d ⟨a2, c2, a3, c3, a4, c4, a5, c5, a6, c6⟩ w) (hln : d.prods.length ≤ 100000)
    (hok : ∀ bb as_ cs m n f1 e1 f2 e2 f3 e3 f4 e4 W, Book d a2 c2 a3 c3 a4 c4 a5 c5 a6 c6 as_ cs m n bb W → Blk W f1 #[.func (.func 40) #[] #[]] 75 → Blk W e1 #[.int .i64 44] 32 → Blk W f2 #[.func (.func 42) #[] #[]] 75 → Blk W e2 #[.int .i64 46] 32 → Blk W f3 #[.func (.func 43) #[] #[]] 75 → Blk W e3 #[.int .i64 2] 32 → Blk W f4 #[.func (.func 44) #[] #[]] 75 → Blk W e4 #[.int .i64 47] 32 → ∀ x ∈ lkL d cy rj f1 e1 f2 e2 f3 e3 f4 e4, En.Ok bb W x) :
    Calls Try.prog 14 #[.agg #[.string d.start, .string d.layout, .slice a2 d.prods.length c2, .slice a3 d.chains.length c3, .slice a4 d.follows.length c4, .slice a5 d.rejects.length c5, .slice a6 d.boxes.length c6]] w fun e w' => e = .returned (.tuple #[.int .i64 (runC (looksL d cy rj)).1, .string (runC (looksL d cy rj)).2]) ∧ Below w.heap.size w w' := by
  have HB0 := hide ((Below.refl w.heap.size w).alloc (Nat.le_refl _) (.cells #[.string d.start, .string d.layout, .slice a2 d.prods.length c2, .slice a3 d.chains.length c3, .slice a4 d.follows.length c4, .slice a5 d.rejects.length c5, .slice a6 d.boxes.length c6] 28))
  have HC := hide (open_any d a2 c2 a3 c3 a4 c4 a5 c5 a6 c6 (w.alloc (.cells #[.string d.start, .string d.layout, .slice a2 d.prods.length c2, .slice a3 d.chains.length c3, .slice a4 d.follows.length c4, .slice a5 d.rejects.length c5, .slice a6 d.boxes.length c6] 28)) (hd.below HB0.out) hln)
  have HOK := hide hok
  clear hok hd hln
  go_enter Try.func14, Try.ntmps14
  go_wp2_with fail
  refine HC.out.mono ?_
  rintro e w1 ⟨bb, as_, cs, m, n, rfl, hh⟩
  have HBK := hide hh.out.1
  have HB1 := hide (below_next HB0.out hh.out.2.2.2)
  clear hh
  go_wp2_with fail
  refine (each_any 44 40 w1).mono ?_
  rintro e w2 ⟨f1, e1, rfl, h2⟩
  have H2 := hide h2.out
  clear h2
  go_wp2_with fail
  refine (each_any 46 42 w2).mono ?_
  rintro e w3 ⟨f2, e2, rfl, h3⟩
  have H3 := hide h3.out
  clear h3
  go_wp2_with fail
  refine (each_any 2 43 w3).mono ?_
  rintro e w4 ⟨f3, e3, rfl, h4⟩
  have H4 := hide h4.out
  clear h4
  go_wp2_with fail
  refine (each_any 47 44 w4).mono ?_
  rintro e w5 ⟨f4, e4, rfl, h5⟩
  have H5 := hide h5.out
  clear h5
  have b23 := H3.out.2.2
  have b24 := below_next b23 H4.out.2.2
  have b25 := below_next b24 H5.out.2.2
  have b35 := below_next H4.out.2.2 H5.out.2.2
  have HOK5 := hide (HOK.out bb as_ cs m n f1 e1 f2 e2 f3 e3 f4 e4 w5 (HBK.out.below (below_next H2.out.2.2 b25)) (H2.out.1.below b25) (H2.out.2.1.below b25) (H3.out.1.below b35) (H3.out.2.1.below b35) (H4.out.1.below H5.out.2.2) (H4.out.2.1.below H5.out.2.2) H5.out.1 H5.out.2.1)
  have HB5 := hide (below_next HB1.out (below_next H2.out.2.2 b25))
  clear b23 b24 b25 b35
  have HL := hide (show ((lkL d cy rj f1 e1 f2 e2 f3 e3 f4 e4).map fv).toArray = #[.func (.func 35) #[] #[], .func (.func 36) #[] #[], .func (.func 37) #[] #[], .func (.func 38) #[] #[], .func (.func 69) #[] #[.pointer (some ⟨f1, 0, none⟩), .pointer (some ⟨e1, 0, none⟩)], .func (.func 41) #[] #[], .func (.func 69) #[] #[.pointer (some ⟨f2, 0, none⟩), .pointer (some ⟨e2, 0, none⟩)], .func (.func 69) #[] #[.pointer (some ⟨f3, 0, none⟩), .pointer (some ⟨e3, 0, none⟩)], .func (.func 69) #[] #[.pointer (some ⟨f4, 0, none⟩), .pointer (some ⟨e4, 0, none⟩)], .func (.func 45) #[] #[], .func (.func 46) #[] #[], .func (.func 47) #[] #[], .func (.func 48) #[] #[], .func (.func 49) #[] #[]] from rfl)
  have HLR := hide (lkL_r d cy rj f1 e1 f2 e2 f3 e3 f4 e4)
  have HLN := hide (show (lkL d cy rj f1 e1 f2 e2 f3 e3 f4 e4).length = 14 from rfl)
  go_upto_region 3 with fail
  rw [← HL.out]
  generalize lkL d cy rj f1 e1 f2 e2 f3 e3 f4 e4 = L at HOK5 HLR HLN ⊢
  have HROW := hide (show Row FvAt 1 L (some ⟨w5.heap.size, 0, none⟩) (w5.alloc (.cells (L.map fv).toArray 73)) from ⟨by rw [HLN.out]; decide, fun _ => ⟨_, 0, rfl, by simp, fun i hi => by
    have := cells_at w5 (L.map fv) 73 w5.heap.size rfl i (fv L[i]) (by rw [List.getElem?_map, List.getElem?_eq_getElem hi]; rfl)
    rw [Addr.add_lit] at this
    rw [Nat.mul_one]
    exact this⟩⟩)
  have HBN := hide ((Below.refl w5.heap.size w5).alloc (Nat.le_refl _) (.cells (L.map fv).toArray 73))
  obtain ⟨w6, h6⟩ : ∃ w6, w5.alloc (.cells (L.map fv).toArray 73) = w6 := ⟨_, rfl⟩
  obtain ⟨gb, hgb⟩ : ∃ gb, w5.heap.size = gb := ⟨_, rfl⟩
  rw [h6, hgb] at HROW
  rw [h6] at HBN
  rw [h6, hgb]
  clear h6 hgb HL
  have HB6 := hide (below_next HB5.out HBN.out)
  go_wp2_with fail
  go_loopg [19] 14 (fun u v19 wr => ∃ k : Nat, Hid (u = 14 - k) ∧ v19 = .int .i64 (k : Int) ∧ Hid (k ≤ 14 ∧ Below w6.heap.size w6 wr ∧ ∀ j (h : j < L.length), j < k → L[j].r.1 = 0))
  case atStart => exact ⟨0, hide rfl, rfl, hide ⟨Nat.zero_le _, Below.refl _ _, fun j _ h => by omega⟩⟩
  case round =>
    obtain ⟨k, hu, rfl, hh⟩ := hrel
    have hkl := hh.out.1
    by_cases hlt : k < 14
    · have hlti : (k : Int) < 14 := by omega
      have hlL : k < L.length := by rw [HLN.out]; exact hlt
      obtain ⟨b, o, ebo, hb, hat⟩ := (HROW.out.below FvAt.stable hh.out.2.1).get hlL
      obtain ⟨rfl, rfl⟩ : gb = b ∧ 0 = o := by injection ebo with e; injection e with e1 e2; exact ⟨e1, e2⟩
      have hx := hat k hlL
      rw [Nat.mul_one, Nat.zero_add] at hx
      have HNX := hide (fun (h : L[k].r.1 = 0) => (show ∀ j (h : j < L.length), j < k + 1 → L[j].r.1 = 0 from fun j hj hjk => by
        by_cases e : j = k
        · subst e; exact h
        · exact hh.out.2.2 j hj (by omega)))
      have HHI := hide (fun (h : L[k].r.1 ≠ 0) => runC_hit L k hlL hh.out.2.2 h)
      have HX := hide (HOK5.out L[k] (List.getElem_mem hlL))
      generalize L[k] = x at hx HNX HHI HX
      clear hat ebo
      obtain ⟨g, lb, rc, rn⟩ := x
      have hfv : wr.cell? ⟨gb, k, none⟩ = some (.func (.func g) #[] lb) := hx
      have eg : ∀ args w, (callFunc g args).run Try.prog w = .ok (.enter g args) w := HX.out.e
      have HC2 := hide (HX.out.c wr (below_next HBN.out hh.out.2.1))
      clear hx
      by_cases h0 : rc = 0
      · have HN := hide (HNX.out h0)
        subst h0
        go_wp2_with (go_at_fn g; refine HC2.out.mono ?_; rintro e w' ⟨rfl, hb'⟩)
        go_roundg (14 - (k + 1))
        case measure => rw [hu.out]; omega
        case rel => exact ⟨k + 1, hide rfl, by go_num, hide ⟨hlt, below_next hh.out.2.1 hb', HN.out⟩⟩
      · have n0 : (rc == 0) = false := by simpa using h0
        have n1 : (rc != 0) = true := by simpa using h0
        have HF := hide (show runC (looksL d cy rj) = (rc, rn) by rw [← HLR.out]; exact HHI.out h0)
        go_wp2_with (go_at_fn g; refine HC2.out.mono ?_; rintro e w' ⟨rfl, hb'⟩)
        go_ret2
        exact ⟨by rw [HF.out]; rfl, below_next HB6.out (below_next hh.out.2.1 hb')⟩
    · have hlti : ¬ (k : Int) < 14 := by omega
      have HF := hide (show runC (looksL d cy rj) = okL by rw [← HLR.out]; exact runC_miss L (fun j h => hh.out.2.2 j h (by have := HLN.out; omega)))
      go_wp2_with fail
      go_ret2
      exact ⟨by rw [HF.out]; rfl, below_next HB6.out hh.out.2.1⟩
end Go.Proofs.Ytalicfpcmcbdbaa
