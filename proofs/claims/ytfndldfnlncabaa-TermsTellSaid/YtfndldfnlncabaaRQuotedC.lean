/- The walk of the reader's method quoted. -/
import Derived.Test.YtfndldfnlncabaaRQuotedH
import Derived.Deep.DeepCutAuto
import Derived.Deep.CutBlock
import Derived.StillTailTactics
set_option linter.unnecessarySimpa false
set_option linter.deprecated false
namespace Go.Proofs.Ytfndldfnlncabaa
open Go.RowKit
set_option linter.unusedVariables false
set_option linter.unusedSimpArgs false

set_option maxHeartbeats 8000000 in
set_option maxRecDepth 100000 in
theorem rq_bad (g : Nat) (s : ByteArray) (p : Nat) (w : World) (hs : s.size ≤ 65536) (hp : p < s.size) (hr : Rd w g s p) (left : Nat) (code : Int) (hcd : code ≠ 15 ∧ code ≠ 0) (hll : left ≤ s.size - p) (hU : ∀ W, Calls Try.prog 67 #[.string (s.extract p s.size)] W fun e w' => (∃ a cap, e = .returned (.tuple #[.slice a ([] : List UInt8).length cap, fv (((s.size - p - left : Nat) : Int)) (code)]) ∧ RBo (fun k => W.heap.size ≤ k) w' a ([] : List UInt8)) ∧ Below W.heap.size W w') :
    Calls Try.prog 55 #[.pointer (some ⟨g, 0, none⟩)] w fun e w' => QuotPost g s w.heap.size (.bad left code) e w' ∧ Fr g w w' := by
  have HU := hide hU
  have HR := hide hr
  have c0 := hr.cell0
  have c1 := hr.cell1
  have z1 := hr.free1
  have hlt := hr.lt
  have hpi : (p : Int) ≤ (s.size : Int) := by omega
  clear hU hr
  go_enter Try.func55, Try.ntmps55
  go_upto_region 1 with fail
  go_cut [3, 4] (fun v3 v4 wc => ∃ (a : Option Addr) (cap f : Nat), v3 = .slice a ([] : List UInt8).length cap ∧ v4 = .pointer (some ⟨f, 0, none⟩) ∧ Hid (QCut g s p w ([] : List UInt8) (((s.size - p - left : Nat) : Int)) (code) a f wc))
  case first =>
    go_region_with (first | (go_at_call 67; refine (HU.out _).mono ?_; rintro e w1 ⟨⟨a, cap, rfl, hb⟩, hb1⟩; have HB := hide hb; clear hb; have HB1 := hide hb1; obtain ⟨hcl, hfr⟩ := bcell hb1; have hz := hb1.size; clear hb1))
    all_goals
      have hRd : Rd w1 g s p := Rd.below (by first | exact HR.out.drewS | exact (HR.out.allocS).drewS | exact HR.out.drewS.allocS) HB1.out
      have hF1 : Fr g w w1 := Fr.trans (by repeat (first | exact Fr.refl _ _ | (refine Fr.drewS ?_) | (refine Fr.allocS ?_))) (Fr.of HB1.out)
      have hg1 := hRd.lt
      have HRD := hide hRd
      have HF1 := hide hF1
      clear hRd hF1
      go_wp2_with fail
      go_meet
      first
      | exact ⟨_, _, _, rfl, rfl, qcut_new HR.out HRD.out HF1.out HB.out HB1.out⟩
      | exact ⟨_, _, _, rfl, rfl, qcut_old HR.out HRD.out HF1.out HB.out HB1.out⟩
  case rest =>
    obtain ⟨a, cap, f, rfl, rfl, hq⟩ := hcut
    have c0 := hq.out.rd.cell0
    have c1 := hq.out.rd.cell1
    have z1 := hq.out.rd.free1
    have hlt := hq.out.rd.lt
    have e0 : wc.cell? ⟨f, 0, none⟩ = some (.int .i64 (((s.size - p - left : Nat) : Int))) := hq.out.blk.cell 0
    have e1 : wc.cell? ⟨f, 1, none⟩ = some (.int .i64 (code)) := hq.out.blk.cell 1
    have hfl := hq.out.blk.lt
    have hc15 : ((code : Int) == 15) = false := by rw [beq_eq_false_iff_ne]; exact hcd.1
    have hc00 : ((code : Int) != 0) = true := by rw [bne_iff_ne]; exact hcd.2
    have hsum : (p : Int) + ((s.size - p - left : Nat) : Int) = ((s.size - left : Nat) : Int) := by omega
    have hu3 : ((s.size - left : Nat) : Int) ≤ (s.size : Int) := by omega
    generalize hz : s.size - left = q at *
    generalize s.size - p - left = n1 at *
    have HZ := hide hz
    clear hz hcd
    go_wp2_with fail
    have hwr : IntKind.i64.wrap (q : Int) = q := IntWalk.i64_in _ (by omega)
    go_still_tail 9, (by kernel_rfl)
    change wpList _ _ _ _ _ wc.drew
    go_wp2_with fail
    refine (fail_any _ _ _).mono ?_
    rintro e w2 ⟨rfl, rfl⟩
    unfold faultP
    go_wp2_with fail
    refine ⟨rfl, ?_, hq.out.fr.drewS⟩
    show _ = faultP ((s.size - left : Nat) : Int) code
    rw [HZ.out]
    rfl
end Go.Proofs.Ytfndldfnlncabaa
