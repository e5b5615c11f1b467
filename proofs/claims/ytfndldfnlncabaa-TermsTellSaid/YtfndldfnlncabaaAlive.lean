/- The walk of the laws' own alive: fixed calls, evaluated. -/
import Derived.Test.YtfndldfnlncabaaParseB
import Derived.Test.YtfndldfnlncabaaSize
import Derived.Test.YtfndldfnlncabaaPrint
namespace Go.Proofs.Ytfndldfnlncabaa
set_option linter.unnecessarySimpa false
set_option linter.deprecated false
open Go.RowKit
set_option linter.unusedVariables false
set_option linter.unusedSimpArgs false

def text1 : ByteArray := ⟨#[32, 65, 100, 100, 40, 78, 117, 109, 40, 34, 49, 34, 41, 44, 32, 83, 101, 113, 40, 91, 32, 93, 41, 41]⟩
def text2 : ByteArray := ⟨#[65, 40, 41]⟩
def text3 : ByteArray := ⟨#[65, 100, 100, 40, 78, 117, 109, 40, 34, 49, 34, 41, 44, 83, 101, 113, 40, 91, 93, 41, 41]⟩
def term1 : Tm := .mk 1 ⟨#[65, 100, 100]⟩ [] [.mk 1 ⟨#[78, 117, 109]⟩ [] [.mk 2 emptyB [49] []], .mk 1 ⟨#[83, 101, 113]⟩ [] [.mk 3 emptyB [] []]]

theorem one_parse : parseR text1 = (term1, 0, 0) := by kernel_rfl
theorem two_parse : parseR text2 = (zT, 2, 11) := by kernel_rfl
theorem one_print : printF term1 = ([65, 100, 100, 40, 78, 117, 109, 40, 34, 49, 34, 41, 44, 83, 101, 113, 40, 91, 93, 41, 41], 0) := by kernel_rfl
theorem one_cnt : cnt term1 = 5 := by kernel_rfl
theorem one_dep : dep term1 = 3 := by kernel_rfl
theorem one_right : rightB 200 term1 = true := by kernel_rfl
theorem one_vol : vol term1 ≤ 140737488330000 := by
  have : vol term1 = vol term1 := rfl
  have h : decide (vol term1 ≤ 140737488330000) = true := by kernel_rfl
  exact of_decide_eq_true h

set_option maxHeartbeats 2000000 in
set_option maxRecDepth 100000 in
theorem alive_any (w : World) : Calls Try.prog 13 #[] w fun e w' => e = .returned (.bool true) ∧ Below w.heap.size w w' := by
  have HP1 := hide (fun W => parse_any text1 W (by decide))
  have HP2 := hide (fun W => parse_any text2 W (by decide))
  rw [one_parse] at HP1
  rw [two_parse] at HP2
  have HQ := hide (fun v W h => Print_any term1 v W h one_vol)
  rw [one_print] at HQ
  have HS := hide (fun v W h => size_any term1 (by rw [one_cnt]; decide) v W h)
  rw [one_cnt, one_dep] at HS
  have HR := hide (fun v W h => Right_any term1 v W h)
  rw [one_right] at HR
  go_enter Try.func13, Try.ntmps13
  go_wp2_with fail
  refine (HP1.out _).mono ?_
  rintro e w1 ⟨⟨v, rfl, hv⟩, hb1⟩
  obtain ⟨a1, k1, a2, k2, rfl, _, _, _, _⟩ := hv.open
  have HV := hide hv.to
  have HB1 := hide hb1
  clear hv hb1
  unfold fv
  go_wp2_with fail
  have HB2 := hide (show Blk ((w1.alloc (.cells #[.int .i64 term1.kind, .string term1.cons, .slice a1 term1.text.length k1, .slice a2 term1.kids.length k2] 25)).alloc (.cells #[.int .i64 0, .int .i64 0] 32)) w1.heap.size #[.int .i64 term1.kind, .string term1.cons, .slice a1 term1.text.length k1, .slice a2 term1.kids.length k2] 25 from (Blk.new _ _ _).alloc _)
  have HF2 := hide (show Blk ((w1.alloc (.cells #[.int .i64 term1.kind, .string term1.cons, .slice a1 term1.text.length k1, .slice a2 term1.kids.length k2] 25)).alloc (.cells #[.int .i64 0, .int .i64 0] 32)) (w1.heap.size + 1) #[.int .i64 0, .int .i64 0] 32 from by
    have := Blk.new (w1.alloc (.cells #[.int .i64 term1.kind, .string term1.cons, .slice a1 term1.text.length k1, .slice a2 term1.kids.length k2] 25)) #[.int .i64 0, .int .i64 0] 32
    rw [World.size_alloc] at this
    exact this)
  have HT2 := hide (RT.below (two_new w1 (.cells #[.int .i64 term1.kind, .string term1.cons, .slice a1 term1.text.length k1, .slice a2 term1.kids.length k2] 25) (.cells #[.int .i64 0, .int .i64 0] 32)) HV.out)
  have HW2 := hide (below_next HB1.out (two_new w1 (.cells #[.int .i64 term1.kind, .string term1.cons, .slice a1 term1.text.length k1, .slice a2 term1.kids.length k2] 25) (.cells #[.int .i64 0, .int .i64 0] 32)))
  refine (HQ.out _ _ HT2.out).mono ?_
  rintro e w3 ⟨rfl, h3⟩
  have HB3 := hide (HB2.out.below h3)
  have HF3 := hide (HF2.out.below h3)
  have HT3 := hide (RT.below h3 HT2.out)
  have HW3 := hide (HW2.out.trans (h3.mono HW2.out.size))
  clear h3
  have d0 := (HB3.out).cell 0
  have d1 := (HB3.out).cell 1
  have d2 := (HB3.out).cell 2
  have d3 := (HB3.out).cell 3
  have e0 := (HF3.out).cell 0
  have e1 := (HF3.out).cell 1
  have l0 := (HB3.out).lt
  have l1 := (HF3.out).lt
  go_wp2_with fail
  refine (HS.out _ _ HT3.out).mono ?_
  rintro e w4 ⟨rfl, h4⟩
  have HB4 := hide (HB3.out.below h4)
  have HF4 := hide (HF3.out.below h4)
  have HT4 := hide (RT.below h4 HT3.out)
  have HW4 := hide (HW3.out.trans (h4.mono HW3.out.size))
  clear h4
  clear d0 d1 d2 d3 e0 e1 l0 l1
  have d0 := (HB4.out).cell 0
  have d1 := (HB4.out).cell 1
  have d2 := (HB4.out).cell 2
  have d3 := (HB4.out).cell 3
  have e0 := (HF4.out).cell 0
  have e1 := (HF4.out).cell 1
  have l0 := (HB4.out).lt
  have l1 := (HF4.out).lt
  go_wp2_with fail
  refine (HP2.out _).mono ?_
  rintro e w5 ⟨⟨v5, rfl, hv5⟩, h5⟩
  obtain ⟨x1, y1, x2, y2, rfl, _, _, _, _⟩ := hv5.open
  have HB5 := hide (HB4.out.below h5)
  have HF5 := hide (HF4.out.below h5)
  have HT5 := hide (RT.below h5 HT4.out)
  have HW5 := hide (HW4.out.trans (h5.mono HW4.out.size))
  clear h5 hv5
  clear d0 d1 d2 d3 e0 e1 l0 l1
  have d0 := (HB5.out).cell 0
  have d1 := (HB5.out).cell 1
  have d2 := (HB5.out).cell 2
  have d3 := (HB5.out).cell 3
  have e0 := (HF5.out).cell 0
  have e1 := (HF5.out).cell 1
  have l0 := (HB5.out).lt
  have l1 := (HF5.out).lt
  unfold fv
  go_wp2_with fail
  refine (HR.out _ _ (RT.below (two_new w5 _ _) HT5.out)).mono ?_
  rintro e w6 ⟨rfl, h6⟩
  have HW6 := hide (HW5.out.trans ((two_new w5 _ _).trans (h6.mono (by simp; omega)) |>.mono HW5.out.size))
  clear h6
  go_wp2_with fail
  go_ret
  exact ⟨rfl, HW6.out⟩
end Go.Proofs.Ytfndldfnlncabaa
