/- The reference's Print, and the law TermsWrites, walked. -/
import Derived.Test.YtfndldfnlncabaaRText
import Derived.Test.YtfndldfnlncabaaVol
set_option linter.unusedVariables false
set_option linter.unusedSimpArgs false
set_option linter.unnecessarySimpa false
set_option linter.deprecated false
namespace Go.Proofs.Ytfndldfnlncabaa
open Go.RowKit

/-- Printing ends alike by the program and by the reference. -/
theorem printF_txt (T : Tm) : printF T = if rightB 200 T = true then (if (txt T).length ≤ 65536 then (txt T, 0) else ([], 2)) else ([], 110) := by
  unfold printF
  by_cases h : rightB 200 T = true
  · rw [if_pos h, if_pos h]
    rcases wrT_txt T [] with e | ⟨h1, h2⟩
    · rw [List.nil_append] at e
      rw [e]
    · rw [List.nil_append] at h2
      rw [if_neg (by omega), if_neg (by omega)]
  · rw [if_neg h, if_neg h]

set_option maxHeartbeats 1000000 in
theorem rprint_any (T : Tm) (v : Value) (w : World) (hT : RT w T v) (hl : heavyB T = false) :
    Calls Try.prog 15 #[v] w fun e w' => e = .returned (.tuple #[.string ⟨(printF T).1.toArray⟩, .int .i64 (printF T).2]) ∧ Below w.heap.size w w' := by
  obtain ⟨a1, c1, a2, c2, rfl, _, _, _, _⟩ := hT.open
  have hcnt := cnt_of_heavy hl
  have HT := hide (fun W (h : Below w.heap.size w W) => RT.below h hT)
  have HR := hide (fun v W h => rright_any T (by omega) v W h)
  have h0 := hide ((Below.refl _ w).alloc (Nat.le_refl _) (.cells #[.int .i64 T.kind, .string T.cons, .slice a1 T.text.length c1, .slice a2 T.kids.length c2] 25))
  have hB := hide (Blk.new w #[.int .i64 T.kind, .string T.cons, .slice a1 T.text.length c1, .slice a2 T.kids.length c2] 25)
  have hP := printF_txt T
  clear hT hcnt
  cases hr : rightB 200 T with
  | false =>
    rw [hr] at hP HR
    simp only [Bool.false_eq_true, if_false] at hP
    rw [hP]
    clear hP hr hl
    go_enter Try.func15, Try.ntmps15
    go_wp2_with fail
    refine (HR.out _ _ (HT.out _ h0.out)).mono ?_
    rintro e w1 ⟨rfl, hb⟩
    have HB1 := hide (h0.out.trans (hb.mono h0.out.size))
    clear hb
    go_wp2_with fail
    go_ret2
    exact ⟨rfl, HB1.out⟩
  | true =>
    have hwell := rightB_well T 200
    rw [hr] at hwell hP HR
    simp only [if_true] at hP
    have hw2 : wellB T = true := by
      have := hwell.symm
      rw [Bool.and_eq_true] at this
      exact this.2
    have hvol : vol T ≤ 1000000000 := by
      unfold heavyB at hl
      have := of_decide_eq_false hl
      have := vol_parts T 200 1000 hr (by omega)
      omega
    have HX := hide (fun v W h => rtext_any T hw2 hvol v W h)
    have hlen := txt_len T
    obtain ⟨x, hx⟩ : ∃ x, txt T = x := ⟨_, rfl⟩
    rw [hx] at HX hP hlen
    have hxl : x.length ≤ 1000000000 := by omega
    clear hwell hw2 hr hl hx hlen hvol
    by_cases hxx : x.length ≤ 65536
    · rw [if_pos hxx] at hP
      rw [hP]
      have hxi : ¬ (65536 : Int) < (x.length : Int) := by omega
      clear hP hxx
      go_enter Try.func15, Try.ntmps15
      go_wp2_with fail
      refine (HR.out _ _ (HT.out _ h0.out)).mono ?_
      rintro e w1 ⟨rfl, hb⟩
      have HB1 := hide (h0.out.trans (hb.mono h0.out.size))
      have q := hB.out.below hb
      have e0 := q.cell 0
      have e1 := q.cell 1
      have e2 := q.cell 2
      have e3 := q.cell 3
      clear hb q
      go_wp2_with fail
      refine (HX.out _ _ (HT.out _ HB1.out)).mono ?_
      rintro e w2 ⟨rfl, hb⟩
      have HB2 := hide (HB1.out.trans (hb.mono HB1.out.size))
      clear hb e0 e1 e2 e3
      go_wp2_with fail
      go_ret2
      exact ⟨rfl, HB2.out⟩
    · rw [if_neg hxx] at hP
      rw [hP]
      have hxi : (65536 : Int) < (x.length : Int) := by omega
      clear hP hxx
      go_enter Try.func15, Try.ntmps15
      go_wp2_with fail
      refine (HR.out _ _ (HT.out _ h0.out)).mono ?_
      rintro e w1 ⟨rfl, hb⟩
      have HB1 := hide (h0.out.trans (hb.mono h0.out.size))
      have q := hB.out.below hb
      have e0 := q.cell 0
      have e1 := q.cell 1
      have e2 := q.cell 2
      have e3 := q.cell 3
      clear hb q
      go_wp2_with fail
      refine (HX.out _ _ (HT.out _ HB1.out)).mono ?_
      rintro e w2 ⟨rfl, hb⟩
      have HB2 := hide (HB1.out.trans (hb.mono HB1.out.size))
      clear hb e0 e1 e2 e3
      go_wp2_with fail
      go_ret2
      exact ⟨rfl, HB2.out⟩

set_option maxHeartbeats 2000000 in
set_option maxRecDepth 100000 in
theorem law_writes (T : Tm) (v : Value) (w : World) (hT : RT w T v) : Calls Try.prog 3 #[v] w fun e w' => e = .returned (.bool true) ∧ Below w.heap.size w w' := by
  obtain ⟨a1, c1, a2, c2, rfl, _, _, _, _⟩ := hT.open
  have HA := hide (fun W => alive_any W)
  have HT := hide (fun W (h : Below w.heap.size w W) => RT.below h hT)
  have HV1 := hide (fun W h => heavy_any T (.agg #[.int .i64 T.kind, .string T.cons, .slice a1 T.text.length c1, .slice a2 T.kids.length c2]) W h)
  have HP1 := hide (fun W h k => Print_free T (.agg #[.int .i64 T.kind, .string T.cons, .slice a1 T.text.length c1, .slice a2 T.kids.length c2]) W h k)
  have HP2 := hide (fun W h k => rprint_any T (.agg #[.int .i64 T.kind, .string T.cons, .slice a1 T.text.length c1, .slice a2 T.kids.length c2]) W h k)
  have HW := hide ((Below.refl _ w).alloc (Nat.le_refl _) (.cells #[.int .i64 T.kind, .string T.cons, .slice a1 T.text.length c1, .slice a2 T.kids.length c2] 25))
  have HB := hide (Blk.new w #[.int .i64 T.kind, .string T.cons, .slice a1 T.text.length c1, .slice a2 T.kids.length c2] 25)
  clear hT
  cases h1 : heavyB T with
  | true =>
    rw [h1] at HV1
    go_enter Try.func3, Try.ntmps3
    go_wp2_with fail
    refine (HV1.out _ (HT.out _ HW.out)).mono ?_
    rintro e w1 ⟨rfl, hb1⟩
    have HB1 := hide (HW.out.trans (hb1.mono HW.out.size))
    clear hb1
    go_wp2_with fail
    refine (HA.out _).mono ?_
    rintro e w2 ⟨rfl, hb2⟩
    have HB2 := hide (HB1.out.trans (hb2.mono HB1.out.size))
    clear hb2
    go_wp2_with fail
    go_ret
    exact ⟨rfl, HB2.out⟩
  | false =>
    rw [h1] at HV1
    have HN1 := hide h1
    clear h1
    obtain ⟨p, c, hp⟩ : ∃ p c, printF T = (p, c) := ⟨_, _, rfl⟩
    rw [hp] at HP1 HP2
    clear hp
    go_enter Try.func3, Try.ntmps3
    go_wp2_with fail
    refine (HV1.out _ (HT.out _ HW.out)).mono ?_
    rintro e w1 ⟨rfl, hb1⟩
    have HB1 := hide (HW.out.trans (hb1.mono HW.out.size))
    have q := HB.out.below hb1
    have e0 := q.cell 0
    have e1 := q.cell 1
    have e2 := q.cell 2
    have e3 := q.cell 3
    have HBA := hide q
    clear hb1 q
    go_wp2_with fail
    refine (HP1.out _ (HT.out _ HB1.out) HN1.out).mono ?_
    rintro e w2 ⟨rfl, hb⟩
    have HB2 := hide (HB1.out.trans (hb.mono HB1.out.size))
    have q := HBA.out.below hb
    clear e0 e1 e2 e3
    have e0 := q.cell 0
    have e1 := q.cell 1
    have e2 := q.cell 2
    have e3 := q.cell 3
    clear hb q
    go_wp2_with fail
    refine (HP2.out _ (HT.out _ HB2.out) HN1.out).mono ?_
    rintro e w3 ⟨rfl, hb⟩
    have HB3 := hide (HB2.out.trans (hb.mono HB2.out.size))
    clear hb e0 e1 e2 e3
    go_wp2_with fail
    refine (HA.out _).mono ?_
    rintro e w4 ⟨rfl, hb⟩
    have HB4 := hide (HB3.out.trans (hb.mono HB3.out.size))
    clear hb
    go_wp2_with fail
    go_ret
    exact ⟨rfl, HB4.out⟩
end Go.Proofs.Ytfndldfnlncabaa
