/- The walk of the reader's method quoted. -/
import Derived.Test.YtfndldfnlncabaaRQuotedH
import Derived.Deep.DeepCutAuto
import Derived.Deep.CutBlock
import Derived.StillTailTactics
namespace Go.Proofs.Ytfndldfnlncabaa
set_option linter.unnecessarySimpa false
set_option linter.deprecated false
open Go.RowKit
set_option linter.unusedVariables false
set_option linter.unusedSimpArgs false

set_option maxHeartbeats 8000000 in
set_option maxRecDepth 100000 in
theorem rq_rest (g : Nat) (s : ByteArray) (p : Nat) (w : World) (hs : s.size ≤ 65536) (hp : p < s.size) (hr : Rd w g s p) (bs rest : List UInt8) (hrl : rest.length + 1 < s.size - p) (hU2 : ∀ W, Calls Try.prog 67 #[.string (s.extract p (s.size - rest.length))] W fun e w' => (∃ a cap, e = .returned (.tuple #[.slice a bs.length cap, fv 0 0]) ∧ RBo (fun k => W.heap.size ≤ k) w' a bs) ∧ Below W.heap.size W w') (hU : ∀ W, Calls Try.prog 67 #[.string (s.extract p s.size)] W fun e w' => (∃ a cap, e = .returned (.tuple #[.slice a ([] : List UInt8).length cap, fv (((s.size - p - rest.length : Nat) : Int)) (15)]) ∧ RBo (fun k => W.heap.size ≤ k) w' a ([] : List UInt8)) ∧ Below W.heap.size W w') :
    Calls Try.prog 55 #[.pointer (some ⟨g, 0, none⟩)] w fun e w' => QuotPost g s w.heap.size (.ok bs rest) e w' ∧ Fr g w w' := by
  have HU := hide hU
  have HR := hide hr
  have c0 := hr.cell0
  have c1 := hr.cell1
  have z1 := hr.free1
  have hlt := hr.lt
  have hpi : (p : Int) ≤ (s.size : Int) := by omega
  clear hU hr
  go_enter Try.func55, Try.ntmps55
  go_upto_region 1 with fail
  go_cut [3, 4] (fun v3 v4 wc => ∃ (a : Option Addr) (cap f : Nat), v3 = .slice a ([] : List UInt8).length cap ∧ v4 = .pointer (some ⟨f, 0, none⟩) ∧ Hid (QCut g s p w ([] : List UInt8) (((s.size - p - rest.length : Nat) : Int)) (15) a f wc))
  case first =>
    go_region_with (first | (go_at_call 67; refine (HU.out _).mono ?_; rintro e w1 ⟨⟨a, cap, rfl, hb⟩, hb1⟩; have HB := hide hb; clear hb; have HB1 := hide hb1; obtain ⟨hcl, hfr⟩ := bcell hb1; have hz := hb1.size; clear hb1))
    all_goals
      have hRd : Rd w1 g s p := Rd.below (by first | exact HR.out.drewS | exact (HR.out.allocS).drewS | exact HR.out.drewS.allocS) HB1.out
      have hF1 : Fr g w w1 := Fr.trans (by repeat (first | exact Fr.refl _ _ | (refine Fr.drewS ?_) | (refine Fr.allocS ?_))) (Fr.of HB1.out)
      have hg1 := hRd.lt
      have HRD := hide hRd
      have HF1 := hide hF1
      clear hRd hF1
      go_wp2_with fail
      go_meet
      first
      | exact ⟨_, _, _, rfl, rfl, qcut_new HR.out HRD.out HF1.out HB.out HB1.out⟩
      | exact ⟨_, _, _, rfl, rfl, qcut_old HR.out HRD.out HF1.out HB.out HB1.out⟩
  case rest =>
    obtain ⟨a, cap, f, rfl, rfl, hq⟩ := hcut
    have c0 := hq.out.rd.cell0
    have c1 := hq.out.rd.cell1
    have z1 := hq.out.rd.free1
    have hlt := hq.out.rd.lt
    have e0 : wc.cell? ⟨f, 0, none⟩ = some (.int .i64 (((s.size - p - rest.length : Nat) : Int))) := hq.out.blk.cell 0
    have e1 : wc.cell? ⟨f, 1, none⟩ = some (.int .i64 (15)) := hq.out.blk.cell 1
    have hfl := hq.out.blk.lt
    have hq1 := hide hq.out.fr
    have hsum : (p : Int) + ((s.size - p - rest.length : Nat) : Int) = ((s.size - rest.length : Nat) : Int) := by omega
    have hu3 : ((s.size - rest.length : Nat) : Int) ≤ (s.size : Int) := by omega
    have hu4 : (p : Int) ≤ ((s.size - rest.length : Nat) : Int) := by omega
    generalize hz : s.size - rest.length = q at *
    generalize s.size - p - rest.length = n1 at *
    have HZ := hide hz
    have HU2 := hide hU2
    clear hz hU2
    go_wp2_with fail
    go_quiet (fail)
    go_wp2_with fail
    go_region_with (first | (go_at_call 67; refine (HU2.out _).mono ?_; rintro e w2 ⟨⟨a2, cap2, rfl, hb2⟩, hb3⟩; have HB2 := hide hb2; have HB3 := hide hb3; clear hb2 hb3))
    all_goals
      have hRd2 : Rd w2 g s p := Rd.below (by repeat (first | exact hq.out.rd | (refine Rd.drewS ?_) | (refine Rd.drewNS ?_))) HB3.out
      have hF2 : Fr g w w2 := Fr.trans (by repeat (first | exact hq.out.fr | (refine Fr.drewS ?_) | (refine Fr.drewNS ?_))) (Fr.of HB3.out)
      have d0 := hRd2.cell0
      have d1 := hRd2.cell1
      have y1 := hRd2.free1
      have hlt2 := hRd2.lt
      have hwc := hq.out.fr.size
      have HRD2 := hide hRd2
      have HF2 := hide hF2
      clear hRd2 hF2
      go_wp2_with fail
      go_ret
      refine ⟨⟨a2, cap2, rfl, ?_, ?_⟩, HF2.out.setS⟩
      · refine RBo.weak ?_ (RBo.keep ?_ HB2.out)
        · intro k hk
          have hk' : wc.heap.size ≤ k := hk
          show w.heap.size ≤ k
          omega
        · exact (Keep.refl _ _).setS (by have := HR.out.lt; simp; omega)
      · rw [HZ.out]
        exact Rd.set HRD2.out _ rfl
end Go.Proofs.Ytfndldfnlncabaa
