/- The walk of defs.Right. -/
import Derived.Test.YtalicfpcmcbdbaaZRProd
import Derived.Test.YtalicfpcmcbdbaaZRChain
import Derived.Test.YtalicfpcmcbdbaaZRItems
set_option linter.unusedVariables false
set_option linter.unusedSimpArgs false
set_option linter.unnecessarySimpa false
set_option linter.deprecated false
namespace Go.Proofs.Ytalicfpcmcbdbaa
open Go.RowKit

def rightFlB (f : Fl) : Bool := namedB f.sort false
def rightRjB (r : Rj) : Bool := namedB r.sort false && namedB r.by_ false
def rightBxB (b : Bx) : Bool := namedB b.cons false && (rIs b.items 64).isSome
def rightDfB (d : Df) : Bool := namedB d.start true && (namedB d.layout true && (decide (d.prods.length ≤ 200) && (d.prods.all rightPdB && (d.chains.all rightChB && (d.follows.all rightFlB && (d.rejects.all rightRjB && d.boxes.all rightBxB))))))
theorem rightItems_any (l : List It) (m0 : Int) (a : Option Addr) (c q : Nat) (w0 w : World) (hr : Row ItAt 4 l a w0) (hb : Below w0.heap.size w0 w) (hq : w0.heap.size ≤ q) (hq2 : Blk w q #[.int .i64 m0] 3) (h1 : m0 ≤ 64) (h2 : 0 ≤ m0) :
    Calls Try.prog 87 #[.slice a l.length c, .pointer (some ⟨q, 0, none⟩)] w (RIP w0 q (rIs l m0)) := rightItems_all _ l (Nat.lt_succ_self _) m0 a c q w0 w hr hb hq hq2 h1 h2
set_option maxHeartbeats 4000000 in
set_option maxRecDepth 100000 in
theorem Right_at (d : Df) (a2 : Option Addr) (c2 : Nat) (a3 : Option Addr) (c3 : Nat) (a4 : Option Addr) (c4 : Nat) (a5 : Option Addr) (c5 : Nat) (a6 : Option Addr) (c6 : Nat) (w : World) (hd : RD d ⟨a2, c2, a3, c3, a4, c4, a5, c5, a6, c6⟩ w) : Calls Try.prog 68 #[.agg #[.string d.start, .string d.layout, .slice a2 d.prods.length c2, .slice a3 d.chains.length c3, .slice a4 d.follows.length c4, .slice a5 d.rejects.length c5, .slice a6 d.boxes.length c6]] w fun e w' => e = .returned (.bool (rightDfB d)) ∧ Below w.heap.size w w' := by
  have hs1 := hd.s
  have hs2 := hd.l
  have hp1 := hd.p.1
  have hp2 := hd.c.1
  have hp3 := hd.f.1
  have hp4 := hd.j.1
  have hp5 := hd.x.1
  obtain ⟨w1, hw1⟩ : ∃ w1, w.alloc (.cells #[.string d.start, .string d.layout, .slice a2 d.prods.length c2, .slice a3 d.chains.length c3, .slice a4 d.follows.length c4, .slice a5 d.rejects.length c5, .slice a6 d.boxes.length c6] 28) = w1 := ⟨_, rfl⟩
  obtain ⟨kb, hkb⟩ : ∃ kb, w.heap.size = kb := ⟨_, rfl⟩
  have HBL := hide (show Blk w1 kb #[.string d.start, .string d.layout, .slice a2 d.prods.length c2, .slice a3 d.chains.length c3, .slice a4 d.follows.length c4, .slice a5 d.rejects.length c5, .slice a6 d.boxes.length c6] 28 by rw [← hw1, ← hkb]; exact Blk.new w _ _)
  have HB0 := hide (show Below w.heap.size w w1 by rw [← hw1]; exact (Below.refl _ _).alloc (Nat.le_refl _) _)
  have HRD := hide (hd.below HB0.out)
  have HW1 := hide hw1
  have HKB := hide hkb
  have HN1 := hide (fun W => named_any d.start true W hs1)
  have HN2 := hide (fun W => named_any d.layout true W hs2)
  clear hd hw1 hkb hs1 hs2
  go_enter Try.func68, Try.ntmps68
  go_upto_region 1 with fail
  rw [HW1.out, HKB.out]
  have d0 := HBL.out.cell 0
  have d1 := HBL.out.cell 1
  have dl := HBL.out.lt
  cases hn1 : namedB d.start true with
  | false =>
    have HF := hide (show rightDfB d = false by unfold rightDfB; rw [hn1]; rfl)
    rw [hn1] at HN1
    clear hn1
    go_wp2_with (go_at_call 84; refine (HN1.out _).mono ?_; rintro e w' ⟨rfl, hb'⟩)
    go_ret
    exact ⟨by rw [HF.out]; rfl, below_next HB0.out hb'⟩
  | true =>
    have HS := hide hn1
    rw [hn1] at HN1
    clear hn1
    go_wp2_with fail
    refine (HN1.out _).mono ?_
    rintro e w2 ⟨rfl, hb2⟩
    clear d0 d1 dl
    have hbl := HBL.out.below hb2
    have d1 := hbl.cell 1
    have d2 := hbl.cell 2
    have dl := hbl.lt
    have HB2 := hide hb2
    clear hbl hb2
    cases hn2 : namedB d.layout true with
    | false =>
      have HF := hide (show rightDfB d = false by unfold rightDfB; rw [HS.out, hn2]; rfl)
      rw [hn2] at HN2
      clear hn2
      go_wp2_with (go_at_call 84; refine (HN2.out _).mono ?_; rintro e w' ⟨rfl, hb'⟩)
      go_ret
      exact ⟨by rw [HF.out]; rfl, below_next HB0.out (below_next HB2.out hb')⟩
    | true =>
      have HL := hide hn2
      rw [hn2] at HN2
      clear hn2
      go_wp2_with fail
      refine (HN2.out _).mono ?_
      rintro e w3 ⟨rfl, hb3⟩
      have HBC := hide (below_next HB2.out hb3)
      clear d1 d2 dl hb3 HB2
      have hbl := HBL.out.below HBC.out
      have d2 := hbl.cell 2
      have d3 := hbl.cell 3
      have d4 := hbl.cell 4
      have d5 := hbl.cell 5
      have d6 := hbl.cell 6
      have dl := hbl.lt
      clear hbl
      clear w2
      obtain ⟨w2, hw2⟩ : ∃ w2, w3 = w2 := ⟨_, rfl⟩
      subst hw2
      by_cases hln : d.prods.length ≤ 200
      case neg =>
        have hlnd : decide ((200 : Int) < (d.prods.length : Int)) = true := decide_eq_true (by omega)
        have HF := hide (show rightDfB d = false by unfold rightDfB; rw [HS.out, HL.out, decide_eq_false hln]; rfl)
        go_wp2_with fail
        go_ret
        exact ⟨by rw [HF.out]; rfl, below_next HB0.out HBC.out⟩
      have hlnd : decide ((200 : Int) < (d.prods.length : Int)) = false := decide_eq_false (by omega)
      have HLN := hide hln
      go_wp2_with fail
      clear d2 d3 d4 d5 d6 dl
      obtain ⟨wp0, hwp0⟩ : ∃ wo : World, wo = w3 := ⟨_, rfl⟩
      have HWP0 := hide (show Below w1.heap.size w1 wp0 from by rw [hwp0]; exact HBC.out)
      rw [← hwp0]
      clear hwp0
      go_loopg [33] d.prods.length (fun u vc wr => ∃ k : Nat, Hid (u = d.prods.length - k) ∧ vc = .int .i64 (k : Int) ∧ Hid (k ≤ d.prods.length ∧ Below w1.heap.size w1 wr ∧ ∀ j (h : j < d.prods.length), j < k → rightPdB d.prods[j] = true))
      case atStart => exact ⟨0, hide rfl, rfl, hide ⟨Nat.zero_le _, HWP0.out, none_to (f := rightPdB) rfl⟩⟩
      case round =>
        obtain ⟨k, hu, rfl, hh⟩ := hrel
        have hkl := hh.out.1
        by_cases hlt : k < d.prods.length
        · have hlti : (k : Int) < (d.prods.length : Int) := by omega
          have HRDW := hide (HRD.out.below hh.out.2.1)
          have hg : Row PdAt 5 d.prods a2 wr := HRDW.out.p
          obtain ⟨b, o, rfl, hb, hat⟩ := hg.get hlt
          have hx := hat k hlt
          have HALL := hide (fun (h : rightPdB d.prods[k] = true) => all_next (f := rightPdB) (k := k) (x := d.prods[k]) hh.out.2.2 (fun _ => rfl) h)
          have HNO := hide (fun (h : rightPdB d.prods[k] = false) => (show rightDfB d = false from by unfold rightDfB; rw [all_not rightPdB d.prods k hlt h]; simp))
          generalize d.prods[k] = x at hx HALL HNO
          clear hat
          obtain ⟨ap, cp, ⟨e0, e1, e2, e3, e4⟩, hrow⟩ := hx.cells
          have HC := hide (fun W (h : Below wr.heap.size wr W) => rightProd_any x ap cp W hx.1 (hrow.below SyAt.stable h))
          clear hx hrow
          cases hq : rightPdB x with
          | true =>
            have HA2 := hide (HALL.out hq)
            rw [hq] at HC
            clear hq
            go_wp2_with (go_at_call 85; refine (HC.out _ ((Below.refl _ _).alloc (Nat.le_refl _) _)).mono ?_; rintro e w' ⟨rfl, hb'⟩)
            go_roundg (d.prods.length - (k + 1))
            case measure => rw [hu.out]; omega
            case rel => exact ⟨k + 1, hide rfl, by go_num, hide ⟨hlt, below_next (hh.out.2.1.alloc hh.out.2.1.size _) hb', HA2.out⟩⟩
          | false =>
            have HF := hide (HNO.out hq)
            rw [hq] at HC
            clear hq
            go_wp2_with (go_at_call 85; refine (HC.out _ ((Below.refl _ _).alloc (Nat.le_refl _) _)).mono ?_; rintro e w' ⟨rfl, hb'⟩)
            go_ret
            exact ⟨by rw [HF.out]; rfl, below_next HB0.out (below_next (hh.out.2.1.alloc hh.out.2.1.size _) hb')⟩
        · have hlti : ¬ (k : Int) < (d.prods.length : Int) := by omega
          have HT0 := hide (all_to rightPdB d.prods (fun j h => hh.out.2.2 j h (by omega)))
          have HBC := hide hh.out.2.1
          clear hu hkl hlt hh
          have hbl := HBL.out.below HBC.out
          have d2 := hbl.cell 2
          have d3 := hbl.cell 3
          have d4 := hbl.cell 4
          have d5 := hbl.cell 5
          have d6 := hbl.cell 6
          have dl := hbl.lt
          clear hbl
          go_wp2_with fail
          clear d2 d3 d4 d5 d6 dl
          obtain ⟨wp1, hwp1⟩ : ∃ wo : World, wo = wr := ⟨_, rfl⟩
          have HWP1 := hide (show Below w1.heap.size w1 wp1 from by rw [hwp1]; exact HBC.out)
          rw [← hwp1]
          clear hwp1
          go_loopg [44] d.chains.length (fun u vc wr => ∃ k : Nat, Hid (u = d.chains.length - k) ∧ vc = .int .i64 (k : Int) ∧ Hid (k ≤ d.chains.length ∧ Below w1.heap.size w1 wr ∧ ∀ j (h : j < d.chains.length), j < k → rightChB d.chains[j] = true))
          case atStart => exact ⟨0, hide rfl, rfl, hide ⟨Nat.zero_le _, HWP1.out, none_to (f := rightChB) rfl⟩⟩
          case round =>
            obtain ⟨k, hu, rfl, hh⟩ := hrel
            have hkl := hh.out.1
            by_cases hlt : k < d.chains.length
            · have hlti : (k : Int) < (d.chains.length : Int) := by omega
              have HRDW := hide (HRD.out.below hh.out.2.1)
              have hg : Row ChAt 1 d.chains a3 wr := HRDW.out.c
              obtain ⟨b, o, rfl, hb, hat⟩ := hg.get hlt
              have hx := hat k hlt
              have HALL := hide (fun (h : rightChB d.chains[k] = true) => all_next (f := rightChB) (k := k) (x := d.chains[k]) hh.out.2.2 (fun _ => rfl) h)
              have HNO := hide (fun (h : rightChB d.chains[k] = false) => (show rightDfB d = false from by unfold rightDfB; rw [all_not rightChB d.chains k hlt h]; simp))
              generalize d.chains[k] = x at hx HALL HNO
              clear hat
              obtain ⟨ac, cc, e0, hrow⟩ := hx
              rw [Nat.mul_one] at e0
              have HC := hide (rightChain_any x ac cc wr hrow)
              clear hrow
              cases hq : rightChB x with
              | true =>
                have HA2 := hide (HALL.out hq)
                rw [hq] at HC
                clear hq
                go_wp2_with (go_at_call 86; refine HC.out.mono ?_; rintro e w' ⟨rfl, hb'⟩)
                go_roundg (d.chains.length - (k + 1))
                case measure => rw [hu.out]; omega
                case rel => exact ⟨k + 1, hide rfl, by go_num, hide ⟨hlt, below_next hh.out.2.1 hb', HA2.out⟩⟩
              | false =>
                have HF := hide (HNO.out hq)
                rw [hq] at HC
                clear hq
                go_wp2_with (go_at_call 86; refine HC.out.mono ?_; rintro e w' ⟨rfl, hb'⟩)
                go_ret
                exact ⟨by rw [HF.out]; rfl, below_next HB0.out (below_next hh.out.2.1 hb')⟩
            · have hlti : ¬ (k : Int) < (d.chains.length : Int) := by omega
              have HT1 := hide (all_to rightChB d.chains (fun j h => hh.out.2.2 j h (by omega)))
              have HBC := hide hh.out.2.1
              clear hu hkl hlt hh
              have hbl := HBL.out.below HBC.out
              have d2 := hbl.cell 2
              have d3 := hbl.cell 3
              have d4 := hbl.cell 4
              have d5 := hbl.cell 5
              have d6 := hbl.cell 6
              have dl := hbl.lt
              clear hbl
              go_wp2_with fail
              clear d2 d3 d4 d5 d6 dl
              obtain ⟨wp2, hwp2⟩ : ∃ wo : World, wo = wr := ⟨_, rfl⟩
              have HWP2 := hide (show Below w1.heap.size w1 wp2 from by rw [hwp2]; exact HBC.out)
              rw [← hwp2]
              clear hwp2
              go_loopg [55] d.follows.length (fun u vc wr => ∃ k : Nat, Hid (u = d.follows.length - k) ∧ vc = .int .i64 (k : Int) ∧ Hid (k ≤ d.follows.length ∧ Below w1.heap.size w1 wr ∧ ∀ j (h : j < d.follows.length), j < k → rightFlB d.follows[j] = true))
              case atStart => exact ⟨0, hide rfl, rfl, hide ⟨Nat.zero_le _, HWP2.out, none_to (f := rightFlB) rfl⟩⟩
              case round =>
                obtain ⟨k, hu, rfl, hh⟩ := hrel
                have hkl := hh.out.1
                by_cases hlt : k < d.follows.length
                · have hlti : (k : Int) < (d.follows.length : Int) := by omega
                  have HRDW := hide (HRD.out.below hh.out.2.1)
                  have hg : Row FlAt 5 d.follows a4 wr := HRDW.out.f
                  obtain ⟨b, o, rfl, hb, hat⟩ := hg.get hlt
                  have hx := hat k hlt
                  have HALL := hide (fun (h : rightFlB d.follows[k] = true) => all_next (f := rightFlB) (k := k) (x := d.follows[k]) hh.out.2.2 (fun _ => rfl) h)
                  have HNO := hide (fun (h : rightFlB d.follows[k] = false) => (show rightDfB d = false from by unfold rightDfB; rw [all_not rightFlB d.follows k hlt h]; simp))
                  generalize d.follows[k] = x at hx HALL HNO
                  clear hat
                  obtain ⟨e0, e1, e2, e3, e4⟩ := hx.cells
                  have HC := hide (fun W => named_any x.sort false W hx.1.n)
                  clear hx
                  cases hq : namedB x.sort false with
                  | true =>
                    have HA2 := hide (HALL.out hq)
                    rw [hq] at HC
                    clear hq
                    go_wp2_with (go_at_call 84; refine (HC.out _).mono ?_; rintro e w' ⟨rfl, hb'⟩)
                    go_roundg (d.follows.length - (k + 1))
                    case measure => rw [hu.out]; omega
                    case rel => exact ⟨k + 1, hide rfl, by go_num, hide ⟨hlt, below_next (hh.out.2.1.alloc hh.out.2.1.size _) hb', HA2.out⟩⟩
                  | false =>
                    have HF := hide (HNO.out hq)
                    rw [hq] at HC
                    clear hq
                    go_wp2_with (go_at_call 84; refine (HC.out _).mono ?_; rintro e w' ⟨rfl, hb'⟩)
                    go_ret
                    exact ⟨by rw [HF.out]; rfl, below_next HB0.out (below_next (hh.out.2.1.alloc hh.out.2.1.size _) hb')⟩
                · have hlti : ¬ (k : Int) < (d.follows.length : Int) := by omega
                  have HT2 := hide (all_to rightFlB d.follows (fun j h => hh.out.2.2 j h (by omega)))
                  have HBC := hide hh.out.2.1
                  clear hu hkl hlt hh
                  have hbl := HBL.out.below HBC.out
                  have d2 := hbl.cell 2
                  have d3 := hbl.cell 3
                  have d4 := hbl.cell 4
                  have d5 := hbl.cell 5
                  have d6 := hbl.cell 6
                  have dl := hbl.lt
                  clear hbl
                  go_wp2_with fail
                  clear d2 d3 d4 d5 d6 dl
                  obtain ⟨wp3, hwp3⟩ : ∃ wo : World, wo = wr := ⟨_, rfl⟩
                  have HWP3 := hide (show Below w1.heap.size w1 wp3 from by rw [hwp3]; exact HBC.out)
                  rw [← hwp3]
                  clear hwp3
                  go_loopg [67] d.rejects.length (fun u vc wr => ∃ k : Nat, Hid (u = d.rejects.length - k) ∧ vc = .int .i64 (k : Int) ∧ Hid (k ≤ d.rejects.length ∧ Below w1.heap.size w1 wr ∧ ∀ j (h : j < d.rejects.length), j < k → rightRjB d.rejects[j] = true))
                  case atStart => exact ⟨0, hide rfl, rfl, hide ⟨Nat.zero_le _, HWP3.out, none_to (f := rightRjB) rfl⟩⟩
                  case round =>
                    obtain ⟨k, hu, rfl, hh⟩ := hrel
                    have hkl := hh.out.1
                    by_cases hlt : k < d.rejects.length
                    · have hlti : (k : Int) < (d.rejects.length : Int) := by omega
                      have HRDW := hide (HRD.out.below hh.out.2.1)
                      have hg : Row RjAt 2 d.rejects a5 wr := HRDW.out.j
                      obtain ⟨b, o, rfl, hb, hat⟩ := hg.get hlt
                      have hx := hat k hlt
                      have HALL := hide (fun (h : rightRjB d.rejects[k] = true) => all_next (f := rightRjB) (k := k) (x := d.rejects[k]) hh.out.2.2 (fun _ => rfl) h)
                      have HNO := hide (fun (h : rightRjB d.rejects[k] = false) => (show rightDfB d = false from by unfold rightDfB; rw [all_not rightRjB d.rejects k hlt h]; simp))
                      generalize d.rejects[k] = x at hx HALL HNO
                      clear hat
                      obtain ⟨e0, e1⟩ := hx.cells
                      have hs1 := hx.1.n
                      have hs2 := hx.1.b
                      have HX := hide (Blk.new wr #[.string x.sort, .string x.by_] 50)
                      have HBX := hide (hh.out.2.1.alloc hh.out.2.1.size (.cells #[.string x.sort, .string x.by_] 50))
                      clear hx
                      cases hq1 : namedB x.sort false with
                      | false =>
                        have HF := hide (HNO.out (by unfold rightRjB; rw [hq1]; rfl))
                        have HC := hide (fun W => named_any x.sort false W hs1)
                        rw [hq1] at HC
                        clear hq1
                        go_wp2_with (go_at_call 84; refine (HC.out _).mono ?_; rintro e w' ⟨rfl, hb'⟩)
                        go_ret
                        exact ⟨by rw [HF.out]; rfl, below_next HB0.out (below_next HBX.out hb')⟩
                      | true =>
                        have HC := hide (fun W => named_any x.sort false W hs1)
                        have HC2 := hide (fun W => named_any x.by_ false W hs2)
                        rw [hq1] at HC
                        cases hq2 : namedB x.by_ false with
                        | false =>
                          have HF := hide (HNO.out (by unfold rightRjB; rw [hq1, hq2]; rfl))
                          rw [hq2] at HC2
                          clear hq1 hq2
                          go_wp2_with fail
                          refine (HC.out _).mono ?_
                          rintro e w' ⟨rfl, hb'⟩
                          have hk := HX.out.below hb'
                          have f0 := hk.cell 0
                          have f1 := hk.cell 1
                          replace HBX := hide (below_next HBX.out hb')
                          clear hk hb'
                          go_wp2_with fail
                          refine (HC2.out _).mono ?_
                          rintro e w'' ⟨rfl, hb'⟩
                          go_wp2_with fail
                          go_ret
                          exact ⟨by rw [HF.out]; rfl, below_next HB0.out (below_next HBX.out hb')⟩
                        | true =>
                          have HA2 := hide (HALL.out (by unfold rightRjB; rw [hq1, hq2]; rfl))
                          rw [hq2] at HC2
                          clear hq1 hq2
                          go_wp2_with fail
                          refine (HC.out _).mono ?_
                          rintro e w' ⟨rfl, hb'⟩
                          have hk := HX.out.below hb'
                          have f0 := hk.cell 0
                          have f1 := hk.cell 1
                          replace HBX := hide (below_next HBX.out hb')
                          clear hk hb'
                          go_wp2_with fail
                          refine (HC2.out _).mono ?_
                          rintro e w'' ⟨rfl, hb'⟩
                          go_wp2_with fail
                          go_roundg (d.rejects.length - (k + 1))
                          case measure => rw [hu.out]; omega
                          case rel => exact ⟨k + 1, hide rfl, by go_num, hide ⟨hlt, below_next HBX.out hb', HA2.out⟩⟩
                    · have hlti : ¬ (k : Int) < (d.rejects.length : Int) := by omega
                      have HT3 := hide (all_to rightRjB d.rejects (fun j h => hh.out.2.2 j h (by omega)))
                      have HBC := hide hh.out.2.1
                      clear hu hkl hlt hh
                      have hbl := HBL.out.below HBC.out
                      have d2 := hbl.cell 2
                      have d3 := hbl.cell 3
                      have d4 := hbl.cell 4
                      have d5 := hbl.cell 5
                      have d6 := hbl.cell 6
                      have dl := hbl.lt
                      clear hbl
                      go_wp2_with fail
                      clear d2 d3 d4 d5 d6 dl
                      obtain ⟨wp4, hwp4⟩ : ∃ wo : World, wo = wr := ⟨_, rfl⟩
                      have HWP4 := hide (show Below w1.heap.size w1 wp4 from by rw [hwp4]; exact HBC.out)
                      rw [← hwp4]
                      clear hwp4
                      go_loopg [85] d.boxes.length (fun u vc wr => ∃ k : Nat, Hid (u = d.boxes.length - k) ∧ vc = .int .i64 (k : Int) ∧ Hid (k ≤ d.boxes.length ∧ Below w1.heap.size w1 wr ∧ ∀ j (h : j < d.boxes.length), j < k → rightBxB d.boxes[j] = true))
                      case atStart => exact ⟨0, hide rfl, rfl, hide ⟨Nat.zero_le _, HWP4.out, none_to (f := rightBxB) rfl⟩⟩
                      case round =>
                        obtain ⟨k, hu, rfl, hh⟩ := hrel
                        have hkl := hh.out.1
                        by_cases hlt : k < d.boxes.length
                        · have hlti : (k : Int) < (d.boxes.length : Int) := by omega
                          have HRDW := hide (HRD.out.below hh.out.2.1)
                          have hg : Row BxAt 2 d.boxes a6 wr := HRDW.out.x
                          obtain ⟨b, o, rfl, hb, hat⟩ := hg.get hlt
                          have hx := hat k hlt
                          have HALL := hide (fun (h : rightBxB d.boxes[k] = true) => all_next (f := rightBxB) (k := k) (x := d.boxes[k]) hh.out.2.2 (fun _ => rfl) h)
                          have HNO := hide (fun (h : rightBxB d.boxes[k] = false) => (show rightDfB d = false from by unfold rightDfB; rw [all_not rightBxB d.boxes k hlt h]; simp))
                          generalize d.boxes[k] = x at hx HALL HNO
                          clear hat
                          obtain ⟨hsh, ab, cb, ⟨e0, e1⟩, hrow⟩ := hx.cells
                          have HW3 := hide (show Blk ((wr.alloc (.cells #[.string x.cons, .slice ab x.items.length cb] 53)).alloc (.cells #[.int .i64 64] 3)) wr.heap.size #[.string x.cons, .slice ab x.items.length cb] 53 from (Blk.new wr _ _).alloc _)
                          have HQ3 := hide (show Blk ((wr.alloc (.cells #[.string x.cons, .slice ab x.items.length cb] 53)).alloc (.cells #[.int .i64 64] 3)) (wr.heap.size + 1) #[.int .i64 64] 3 from NB.new1)
                          have HBX := hide (NB.alloc (NB.alloc (Below.refl wr.heap.size wr) (.cells #[.string x.cons, .slice ab x.items.length cb] 53)) (.cells #[.int .i64 64] 3))
                          have HROW := hide hrow
                          have HC := hide (fun W => named_any x.cons false W hsh)
                          clear hx hrow
                          cases hq1 : namedB x.cons false with
                          | false =>
                            have HF := hide (HNO.out (by unfold rightBxB; rw [hq1]; rfl))
                            rw [hq1] at HC
                            clear hq1
                            go_wp2_with (go_at_call 84; refine (HC.out _).mono ?_; rintro e w' ⟨rfl, hb'⟩)
                            go_ret
                            exact ⟨by rw [HF.out]; rfl, below_next HB0.out (below_next hh.out.2.1 (below_next HBX.out hb'))⟩
                          | true =>
                            rw [hq1] at HC
                            have HQA := hide (fun W q (hb : Below wr.heap.size wr W) (hq : wr.heap.size ≤ q) (h : Blk W q #[.int .i64 64] 3) => rightItems_any x.items 64 ab cb q wr W HROW.out hb hq h (by decide) (by decide))
                            cases hk2 : rIs x.items 64 with
                            | none =>
                              have HF := hide (HNO.out (by unfold rightBxB; rw [hq1, hk2]; rfl))
                              rw [hk2] at HQA
                              clear hq1 hk2
                              go_wp2_with fail
                              refine (HC.out _).mono ?_
                              rintro e w' ⟨rfl, hb'⟩
                              have hk := HW3.out.below hb'
                              have f0 := hk.cell 0
                              have f1 := hk.cell 1
                              have HQ4 := hide (HQ3.out.below hb')
                              replace HBX := hide (below_next HBX.out hb')
                              clear hk hb'
                              go_wp2_with fail
                              refine (HQA.out _ _ HBX.out (by omega) HQ4.out).mono ?_
                              rintro e w'' ⟨⟨rfl, hb'⟩, _⟩
                              go_wp2_with fail
                              go_ret
                              exact ⟨by rw [HF.out]; rfl, below_next HB0.out (below_next hh.out.2.1 hb')⟩
                            | some m2 =>
                              have HA2 := hide (HALL.out (by unfold rightBxB; rw [hq1, hk2]; rfl))
                              rw [hk2] at HQA
                              clear hq1 hk2
                              go_wp2_with fail
                              refine (HC.out _).mono ?_
                              rintro e w' ⟨rfl, hb'⟩
                              have hk := HW3.out.below hb'
                              have f0 := hk.cell 0
                              have f1 := hk.cell 1
                              have HQ4 := hide (HQ3.out.below hb')
                              replace HBX := hide (below_next HBX.out hb')
                              clear hk hb'
                              go_wp2_with fail
                              refine (HQA.out _ _ HBX.out (by omega) HQ4.out).mono ?_
                              rintro e w'' ⟨⟨rfl, hb'⟩, _⟩
                              go_wp2_with fail
                              go_roundg (d.boxes.length - (k + 1))
                              case measure => rw [hu.out]; omega
                              case rel => exact ⟨k + 1, hide rfl, by go_num, hide ⟨hlt, below_next hh.out.2.1 hb', HA2.out⟩⟩
                        · have hlti : ¬ (k : Int) < (d.boxes.length : Int) := by omega
                          have HT4 := hide (all_to rightBxB d.boxes (fun j h => hh.out.2.2 j h (by omega)))
                          have HBC := hide hh.out.2.1
                          clear hu hkl hlt hh
                          go_wp2_with fail
                          go_ret
                          exact ⟨ret_bool (by unfold rightDfB; rw [HS.out, HL.out, HT0.out, HT1.out, HT2.out, HT3.out, HT4.out, decide_eq_true HLN.out]; rfl), below_next HB0.out HBC.out⟩
theorem Right_any (d : Df) (r : Rw) (w : World) (hd : RD d r w) : Calls Try.prog 68 #[.agg #[.string d.start, .string d.layout, .slice r.a2 d.prods.length r.c2, .slice r.a3 d.chains.length r.c3, .slice r.a4 d.follows.length r.c4, .slice r.a5 d.rejects.length r.c5, .slice r.a6 d.boxes.length r.c6]] w fun e w' => e = .returned (.bool (rightDfB d)) ∧ Below w.heap.size w w' := Right_at d _ _ _ _ _ _ _ _ _ _ w hd
end Go.Proofs.Ytalicfpcmcbdbaa
