/- The walk of prio. -/
import Derived.Test.YtalicfpcmcbdbaaZLook2
import Derived.Test.YtalicfpcmcbdbaaZRcWalk
import Derived.Test.YtalicfpcmcbdbaaZCons
set_option linter.unusedVariables false
set_option linter.unusedSimpArgs false
set_option linter.unnecessarySimpa false
set_option linter.deprecated false
namespace Go.Proofs.Ytalicfpcmcbdbaa
open Go.RowKit

def chainN (l : List Gp) : List ByteArray := l.flatMap Gp.cons
def badC (d : Df) (s : ByteArray) : Bool := decide (consIdx d.prods s < 0)
/-- The first name of a list that is bad, or that was met. -/
def dupO (bad : ByteArray → Bool) : List ByteArray → List ByteArray → Option ByteArray
  | [], _ => none
  | s :: r, met => if (bad s || inB s met) = true then some s else dupO bad r (met ++ [s])
theorem dupO_app (bad : ByteArray → Bool) : ∀ (l1 l2 met : List ByteArray), dupO bad l1 met = none → dupO bad (l1 ++ l2) met = dupO bad l2 (met ++ l1)
  | [], l2, met, _ => by simp
  | s :: r, l2, met, h => by
    rw [dupO] at h
    rw [List.cons_append, dupO]
    split at h
    · cases h
    · rename_i h2
      rw [if_neg h2, dupO_app bad r l2 _ h, List.append_assoc]; rfl
theorem dupO_snoc (bad : ByteArray → Bool) (l : List ByteArray) (s : ByteArray) (h : dupO bad l [] = none) (hb : (bad s || inB s l) = false) : dupO bad (l ++ [s]) [] = none := by
  rw [dupO_app bad l [s] [] h, List.nil_append, dupO, if_neg (by rw [hb]; decide)]; rfl
theorem dupO_hit (bad : ByteArray → Bool) (l r : List ByteArray) (s : ByteArray) (h : dupO bad l [] = none) (hb : (bad s || inB s l) = true) : dupO bad (l ++ s :: r) [] = some s := by
  rw [dupO_app bad l (s :: r) [] h, List.nil_append, dupO, if_pos hb]
def prioG (f : List Gp → Option ByteArray) : List (List Gp) → Int × ByteArray
  | [] => okL
  | ch :: r => match f ch with | some s => (50, s) | none => prioG f r
theorem prioG_hit (f : List Gp → Option ByteArray) (s : ByteArray) : ∀ (l : List (List Gp)) (k : Nat) (hk : k < l.length), (∀ j (h : j < l.length), j < k → f l[j] = none) → f l[k] = some s → prioG f l = (50, s)
  | [], k, hk, _, _ => absurd hk (by simp)
  | x :: xs, 0, hk, _, hp => by
    have hp : f x = some s := hp
    rw [prioG, hp]
  | x :: xs, k + 1, hk, hf, hp => by
    have h0 : f x = none := hf 0 (by simp) (by omega)
    rw [prioG, h0]
    exact prioG_hit f s xs k (by simpa using hk) (fun j h hj => by have := hf (j + 1) (by simpa using h) (by omega); simpa using this) (by simpa using hp)
theorem prioG_miss (f : List Gp → Option ByteArray) : ∀ (l : List (List Gp)), (∀ j (h : j < l.length), f l[j] = none) → prioG f l = okL
  | [], _ => rfl
  | x :: xs, hf => by
    have h0 : f x = none := hf 0 (by simp)
    rw [prioG, h0]
    exact prioG_miss f xs (fun j h => by have := hf (j + 1) (by simpa using h); simpa using this)
def prioF (d : Df) (ch : List Gp) : Option ByteArray := dupO (badC d) (chainN ch) []
def prioL (d : Df) : Int × ByteArray := prioG (prioF d) d.chains
theorem chainN_snoc (l : List Gp) (k : Nat) (h : k < l.length) : chainN (l.take (k + 1)) = chainN (l.take k) ++ l[k].cons := by
  unfold chainN; rw [take_snoc _ _ h, List.flatMap_append]; simp
theorem chainN_split (l : List Gp) (k i : Nat) (h : k < l.length) (hi : i < l[k].cons.length) : ∃ r, chainN l = (chainN (l.take k) ++ l[k].cons.take i) ++ l[k].cons[i] :: r := by
  refine ⟨l[k].cons.drop (i + 1) ++ chainN (l.drop (k + 1)), ?_⟩
  conv => lhs; rw [← List.take_append_drop k l, ← List.getElem_cons_drop (h := h)]
  unfold chainN
  rw [List.flatMap_append, List.flatMap_cons]
  have e : l[k].cons = l[k].cons.take i ++ l[k].cons[i] :: l[k].cons.drop (i + 1) := by rw [List.getElem_cons_drop, List.take_append_drop]
  have e2 : ∀ R : List ByteArray, l[k].cons ++ R = l[k].cons.take i ++ l[k].cons[i] :: (l[k].cons.drop (i + 1) ++ R) := fun R => by
    conv => lhs; rw [e]
    simp only [List.append_assoc, List.cons_append]
  rw [e2, List.append_assoc]
set_option maxHeartbeats 1600000 in
set_option maxRecDepth 100000 in
theorem prio_any (d : Df) (a2 : Option Addr) (c2 : Nat) (a3 : Option Addr) (c3 : Nat) (a4 : Option Addr) (c4 : Nat) (a5 : Option Addr) (c5 : Nat) (a6 : Option Addr) (c6 : Nat) (as_ : Option Addr) (cs m n : Nat) (bb : Nat) (w : World) (hbk : Book d a2 c2 a3 c3 a4 c4 a5 c5 a6 c6 as_ cs m n bb w) (hct : ∀ ch ∈ d.chains, (chainN ch).length ≤ 99999) : Calls Try.prog 47 #[.pointer (some ⟨bb, 0, none⟩)] w fun e w' => e = .returned (.tuple #[.int .i64 ((prioL d).1), .string ((prioL d).2)]) ∧ Below w.heap.size w w' := by
  have hmm := @run_makeMap Try.prog
  have hln := hbk.rd.c.1
  have bk0 := hbk.bk.cell 0
  have bk1 := hbk.bk.cell 1
  have bk2 := hbk.bk.cell 2
  have bk3 := hbk.bk.cell 3
  have bk4 := hbk.bk.cell 4
  have bk5 := hbk.bk.cell 5
  have bk6 := hbk.bk.cell 6
  have bk7 := hbk.bk.cell 7
  have bk8 := hbk.bk.cell 8
  have bkl := hbk.bk.lt
  have HBK := hide hbk
  clear hbk
  have HCT := hide hct
  obtain ⟨res, hres⟩ : ∃ r, prioL d = r := ⟨_, rfl⟩
  have HRES := hide hres
  rw [hres]
  clear hres hct
  go_enter Try.func47, Try.ntmps47
  go_wp2_with fail
  clear bk0 bk1 bk2 bk3 bk4 bk5 bk6 bk7 bk8 bkl
  go_loopg [17] d.chains.length (fun u v17 wr => ∃ k : Nat, Hid (u = d.chains.length - k) ∧ v17 = .int .i64 (k : Int) ∧ Hid (k ≤ d.chains.length ∧ Below w.heap.size w wr ∧ ∀ j (h : j < d.chains.length), j < k → prioF d d.chains[j] = none))
  case atStart => exact ⟨0, hide rfl, rfl, hide ⟨Nat.zero_le _, Below.refl _ _, fun j _ h => by omega⟩⟩
  case round =>
    obtain ⟨k, hu, rfl, hh⟩ := hrel
    have hkl := hh.out.1
    by_cases hlt : k < d.chains.length
    · have hlti : (k : Int) < (d.chains.length : Int) := by omega
      obtain ⟨b, o, rfl, hb, hat⟩ := (HBK.out.below hh.out.2.1).rd.c.get hlt
      have hx := hat k hlt
      rw [Nat.mul_one] at hx
      have HNX := hide (fun (h : prioF d d.chains[k] = none) => (show ∀ j (h : j < d.chains.length), j < k + 1 → prioF d d.chains[j] = none from fun j hj hjk => by
        by_cases e : j = k
        · subst e; exact h
        · exact hh.out.2.2 j hj (by omega)))
      have HHI := hide (fun s (h : prioF d d.chains[k] = some s) => prioG_hit (prioF d) s d.chains k hlt hh.out.2.2 h)
      have HCL := hide (HCT.out _ (List.getElem_mem hlt))
      generalize d.chains[k] = ch at hx HNX HHI HCL
      clear hat
      obtain ⟨ac, cc, e0, hrc⟩ := hx
      have HRO := hide hrc
      have hlc := hrc.1
      have HBO := hide hh.out.2.1
      have HBKO := hide (HBK.out.below hh.out.2.1)
      have HM0 := hide (MapF.made wr)
      have HBM := hide ((Below.refl wr.heap.size wr).alloc (Nat.le_refl _) (.map #[] 0))
      clear hrc hh
      go_wp2_with fail
      obtain ⟨wo, hwo⟩ : ∃ wo : World, wo = wr := ⟨_, rfl⟩
      rw [← hwo] at HRO HBO HBKO HM0 HBM e0 hb ⊢
      obtain ⟨mb, hmb⟩ : ∃ mb, wo.heap.size = mb := ⟨_, rfl⟩
      obtain ⟨w2, hw2⟩ : ∃ w2, wo.alloc (.map #[] 0) = w2 := ⟨_, rfl⟩
      rw [hmb, hw2] at HM0
      rw [hw2] at HBM
      rw [hw2, hmb]
      have HMB := hide (show wo.heap.size ≤ mb by omega)
      clear hwo hmb hw2
      go_loopg [24] ch.length (fun u v24 wr => ∃ j : Nat, Hid (u = ch.length - j) ∧ v24 = .int .i64 (j : Int) ∧ Hid (j ≤ ch.length ∧ Below wo.heap.size wo wr ∧ MapF wr mb (chainN (ch.take j)).length (metF (chainN (ch.take j))) ∧ dupO (badC d) (chainN (ch.take j)) [] = none))
      case atStart => exact ⟨0, hide rfl, rfl, hide ⟨Nat.zero_le _, HBM.out, by rw [show chainN (ch.take 0) = [] from rfl, metF_nil]; exact HM0.out, rfl⟩⟩
      case round =>
        obtain ⟨j, hv, rfl, hq⟩ := hrel
        have hjl := hq.out.1
        by_cases hltj : j < ch.length
        · have hltji : (j : Int) < (ch.length : Int) := by omega
          obtain ⟨b2, o2, rfl, hb2, hat2⟩ := HRO.out.get hltj
          have hx2 := hat2 j hltj
          have HSP := hide (fun i (hi : i < ch[j].cons.length) => chainN_split ch j i hltj hi)
          have HSN := hide (chainN_snoc ch j hltj)
          generalize ch[j] = g at hx2 HSP HSN
          clear hat2
          obtain ⟨ag, cg, ⟨f0, f1⟩, hrg⟩ := hx2.cells
          have HRG := hide hrg
          have hlg := hrg.1
          have g0 := (hq.out.2.1.cell (p := ⟨b2, o2 + j * 2, none⟩) hb2).trans f0
          have g1 := (hq.out.2.1.cell (p := ⟨b2, o2 + j * 2 + 1, none⟩) hb2).trans f1
          have hb3 : b2 < wr.heap.size := Nat.lt_of_lt_of_le hb2 hq.out.2.1.size
          have HBX := hide (hq.out.2.1.alloc hq.out.2.1.size (.cells #[.int .i64 g.assoc, .slice ag g.cons.length cg] 68))
          have HMX := hide (hq.out.2.2.1.below ((Below.refl wr.heap.size wr).alloc (Nat.le_refl _) (.cells #[.int .i64 g.assoc, .slice ag g.cons.length cg] 68)))
          have HD0 := hide hq.out.2.2.2
          have HJ := hide hltj
          clear hx2 hrg f0 f1 hq
          go_wp2_with fail
          clear g0 g1 hb3
          obtain ⟨w3, hw3⟩ : ∃ w3, wr.alloc (.cells #[.int .i64 g.assoc, .slice ag g.cons.length cg] 68) = w3 := ⟨_, rfl⟩
          rw [hw3] at HBX HMX
          rw [hw3]
          clear hw3
          go_loopg [31] g.cons.length (fun u v31 wr => ∃ i : Nat, Hid (u = g.cons.length - i) ∧ v31 = .int .i64 (i : Int) ∧ Hid (i ≤ g.cons.length ∧ Below wo.heap.size wo wr ∧ MapF wr mb (chainN (ch.take j) ++ g.cons.take i).length (metF (chainN (ch.take j) ++ g.cons.take i)) ∧ dupO (badC d) (chainN (ch.take j) ++ g.cons.take i) [] = none))
          case atStart => exact ⟨0, hide rfl, rfl, hide ⟨Nat.zero_le _, HBX.out, by rw [List.take_zero, List.append_nil]; exact HMX.out, by rw [List.take_zero, List.append_nil]; exact HD0.out⟩⟩
          case round =>
            obtain ⟨i, hz, rfl, hr⟩ := hrel
            have hil := hr.out.1
            by_cases hlti2 : i < g.cons.length
            · have hltii : (i : Int) < (g.cons.length : Int) := by omega
              obtain ⟨b4, o4, rfl, hb4, hat4⟩ := (HRG.out.below StrAt.stable hr.out.2.1).get hlti2
              have hx4 := hat4 i hlti2
              rw [Nat.mul_one] at hx4
              have HTK := hide (take_snoc g.cons i hlti2)
              replace HSP := hide (HSP.out i hlti2)
              generalize g.cons[i] = s at hx4 HTK HSP
              clear hat4
              obtain ⟨hsh, f4⟩ := hx4
              have HSH := hide hsh
              have hbk := HBKO.out.below hr.out.2.1
              have bk0 := hbk.bk.cell 0
              have bk1 := hbk.bk.cell 1
              have bk2 := hbk.bk.cell 2
              have bk3 := hbk.bk.cell 3
              have bk4 := hbk.bk.cell 4
              have bk5 := hbk.bk.cell 5
              have bk6 := hbk.bk.cell 6
              have bkl := hbk.bk.lt
              have HC := hide (Cons_at d a2 c2 (some ⟨b, o, none⟩) c3 a4 c4 a5 c5 a6 c6 s wr hbk.rd.p)
              obtain ⟨pre, hpre⟩ : ∃ pre, chainN (ch.take j) ++ g.cons.take i = pre := ⟨_, rfl⟩
              have HPN := hide (show chainN (ch.take j) ++ g.cons.take (i + 1) = pre ++ [s] by rw [HTK.out, ← List.append_assoc, hpre])
              rw [hpre] at hr HSP
              have HPL := hide (show pre.length ≤ 99999 by
                obtain ⟨r, h⟩ := HSP.out
                have := HCL.out
                rw [h, List.length_append] at this
                omega)
              obtain ⟨ci, hci⟩ : ∃ ci, consIdx d.prods s = ci := ⟨_, rfl⟩
              rw [hci] at HC
              have HBAD := hide (show badC d s = decide (ci < 0) by unfold badC; rw [hci])
              clear hbk hpre hci hsh
              go_wp2_with fail
              refine HC.out.mono ?_
              rintro e w5 ⟨rfl, hb5⟩
              have HB5 := hide (below_next hr.out.2.1 hb5)
              have HM5 := hide (hr.out.2.2.1.below hb5)
              have HD5 := hide hr.out.2.2.2
              have hlk := HM5.out.look s HSH.out
              clear hb5 hr bk0 bk1 bk2 bk3 bk4 bk5 bk6 bkl f4 hb4
              by_cases h0 : ci < 0
              · have HF := hide (show res = (50, s) by
                  rw [← HRES.out]
                  obtain ⟨r, h⟩ := HSP.out
                  exact HHI.out s (by unfold prioF; rw [h]; exact dupO_hit _ _ _ _ HD5.out (by rw [HBAD.out, decide_eq_true h0]; rfl)))
                go_wp2_with fail
                go_ret2
                exact ⟨by rw [HF.out]; rfl, below_next HBO.out HB5.out⟩
              · cases hin : inB s pre with
                | true =>
                  have hlk1 : metF pre s = 1 := by unfold metF; rw [hin]; rfl
                  rw [hlk1] at hlk
                  have HF := hide (show res = (50, s) by
                    rw [← HRES.out]
                    obtain ⟨r, h⟩ := HSP.out
                    exact HHI.out s (by unfold prioF; rw [h]; exact dupO_hit _ _ _ _ HD5.out (by rw [hin]; simp)))
                  clear hin hlk1
                  go_wp2_with fail
                  go_ret2
                  exact ⟨by rw [HF.out]; rfl, below_next HBO.out HB5.out⟩
                | false =>
                  have hlk0 : metF pre s = 0 := by unfold metF; rw [hin]; rfl
                  rw [hlk0] at hlk
                  have HDN := hide (dupO_snoc (badC d) pre s HD5.out (by rw [HBAD.out, hin, decide_eq_false h0]; rfl))
                  have hml2 : pre.length < 1000000 := by have := HPL.out; omega
                  clear hin hlk0
                  go_wp2_with (at_mapUpdate; refine wpList_update rfl _ _ _ rfl mb pre.length (metF pre) rfl HM5.out hml2 s HSH.out 1 (by decide) (by unfold i64; omega) rfl rfl ?_; intro w7 hm7 hg7; have HM7 := hide hm7; have HG7 := hide hg7; clear hm7 hg7)
                  go_roundg (g.cons.length - (i + 1))
                  case measure => rw [hz.out]; omega
                  case rel =>
                    refine ⟨i + 1, hide rfl, by go_num, hide ⟨hlti2, HB5.out.grown HG7.out HB5.out.size (fun g e => by injection e with e; rw [← e]; exact HMB.out), ?_, ?_⟩⟩
                    · rw [HPN.out, metF_add, List.length_append]; exact HM7.out
                    · rw [HPN.out]; exact HDN.out
            · have hltii : ¬ (i : Int) < (g.cons.length : Int) := by omega
              have ht : g.cons.take i = g.cons := List.take_of_length_le (by omega)
              have HEN := hide (show chainN (ch.take j) ++ g.cons.take i = chainN (ch.take (j + 1)) by rw [HSN.out, ht])
              clear ht
              have HR := hide hr.out
              clear hr
              go_wp2_with fail
              go_roundg (ch.length - (j + 1))
              case measure => rw [hv.out]; have := HJ.out; omega
              case rel => exact ⟨j + 1, hide rfl, by go_num, hide ⟨HJ.out, HR.out.2.1, by rw [← HEN.out]; exact HR.out.2.2.1, by rw [← HEN.out]; exact HR.out.2.2.2⟩⟩
        · have hltji : ¬ (j : Int) < (ch.length : Int) := by omega
          have HEN := hide (show ch.take j = ch from List.take_of_length_le (by omega))
          have HQ := hide hq.out
          clear hq
          go_wp2_with fail
          go_roundg (d.chains.length - (k + 1))
          case measure => rw [hu.out]; omega
          case rel => exact ⟨k + 1, hide rfl, by go_num, hide ⟨hlt, below_next HBO.out HQ.out.2.1, HNX.out (by unfold prioF; have := HQ.out.2.2.2; rw [HEN.out] at this; exact this)⟩⟩
    · have hlti : ¬ (k : Int) < (d.chains.length : Int) := by omega
      have HF := hide (show res = okL by rw [← HRES.out]; exact prioG_miss (prioF d) d.chains (fun j h => hh.out.2.2 j h (by omega)))
      go_wp2_with fail
      go_ret2
      exact ⟨by rw [HF.out]; rfl, hh.out.2.1⟩
end Go.Proofs.Ytalicfpcmcbdbaa
