/- The reference: rightItems. The reference: Right. -/
import Derived.Test.YtalicfpcmcbdbaaZCkS
import Derived.Test.YtalicfpcmcbdbaaZRItems
import Derived.Test.YtalicfpcmcbdbaaZRight
set_option linter.unusedVariables false
set_option linter.unusedSimpArgs false
set_option linter.unnecessarySimpa false
set_option linter.deprecated false
namespace Go.Proofs.Ytalicfpcmcbdbaa
open Go.RowKit

def badA (n : Int) (kd : Int) (t : ByteArray) (nn : Int) : Bool := decide (64 < n + 1) || decide (nn < 0) || decide (999999 < nn) || decide (32 < t.size) || decide (kd < 1) || decide (6 < kd)
def badB (kd : Int) (t : ByteArray) (nn : Int) (kids : List It) : Bool := (!decide (kd = 1) && !emp t) || (!decide (kd = 2) && !decide (kd = 5) && !decide (nn = 0)) || (decide (kd < 5) && !decide (kids.length = 0))
theorem okIt_bad (n kd : Int) (t : ByteArray) (nn : Int) (kids : List It) : (okIt kd t nn kids = true ∧ 0 ≤ 64 - n - 1) ↔ (badA n kd t nn = false ∧ badB kd t nn kids = false) := by
  have he : emp t = true → t.size = 0 := fun h => by rw [(emp_iff t).1 h]; rfl
  unfold okIt badA badB numB
  obtain ⟨kl, hkl⟩ : ∃ kl, decide (kids.length = 0) = kl := ⟨_, rfl⟩
  rw [hkl]
  clear hkl
  by_cases h1 : kd = 1
  · subst h1
    cases hem : emp t <;> cases kl <;> simp <;> omega
  by_cases h2 : kd = 2
  · subst h2
    cases hem : emp t
    · simp
    · have := he hem
      cases kl <;> simp <;> omega
  by_cases h3 : kd = 3
  · subst h3
    cases hem : emp t
    · simp
    · have := he hem
      cases kl <;> simp <;> omega
  by_cases h4 : kd = 4
  · subst h4
    cases hem : emp t
    · simp
    · have := he hem
      cases kl <;> simp <;> omega
  by_cases h5 : kd = 5
  · subst h5
    cases hem : emp t
    · simp
    · have := he hem
      cases kl <;> simp <;> omega
  by_cases h6 : kd = 6
  · subst h6
    cases hem : emp t
    · simp
    · have := he hem
      cases kl <;> simp <;> omega
  · simp [h1, h2, h3, h4, h5, h6]; omega
theorem rIs_app : ∀ (l1 l2 : List It) (m : Int), rIs (l1 ++ l2) m = (rIs l1 m).bind (fun j => rIs l2 j)
  | [], l2, m => by rw [List.nil_append, rIs]; rfl
  | x :: l1, l2, m => by
    rw [List.cons_append, rIs, rIs]
    cases rI x m with
    | none => rfl
    | some j => exact rIs_app l1 l2 j
theorem rIs_one (x : It) (m : Int) : rIs [x] m = rI x m := by
  rw [rIs]
  cases rI x m with
  | none => rfl
  | some j => simp only [rIs]
/-- What rightItems answers. -/
def riR (l : List It) (n : Int) : Int := match rIs l (64 - n) with
  | some k => 64 - k
  | none => -1
theorem riR_none {l : List It} {n : Int} {k : Nat} (h : rIs (l.take k) (64 - n) = none) : riR l n = -1 := by
  unfold riR
  rw [← List.take_append_drop k l, rIs_app, h]; rfl
set_option maxHeartbeats 1600000 in
set_option maxRecDepth 100000 in
theorem refItems_all : ∀ (N : Nat) (l : List It), SizeOf.sizeOf l < N → ∀ (n0 : Int), 0 ≤ n0 → n0 ≤ 64 → ∀ (a : Option Addr) (c : Nat) (w : World), Row ItAt 4 l a w →
    Calls Try.prog 92 #[.slice a l.length c, .int .i64 n0] w fun e w' => e = .returned (.int .i64 (riR l n0)) ∧ Below w.heap.size w w' := by
  intro N
  induction N with
  | zero => intro l h; exact absurd h (Nat.not_lt_zero _)
  | succ N ih =>
    intro l hN n0 h00 h64 a c w hr
    have HR := hide hr
    have HN := hide hN
    have IH := hide ih
    have hln := hr.1
    obtain ⟨res, hres⟩ : ∃ r, riR l n0 = r := ⟨_, rfl⟩
    rw [hres]
    have HRES := hide hres
    have H00 := hide (And.intro h00 h64)
    clear hr hN ih hres h00 h64
    go_enter Try.func92, Try.ntmps92
    go_wp2_with fail
    go_loopg [1, 5] l.length (fun u v1 v5 wr => ∃ (k : Nat) (n : Int), Hid (u = l.length - k) ∧ v5 = .int .i64 (k : Int) ∧ v1 = .int .i64 n ∧ Hid (k ≤ l.length ∧ 0 ≤ n ∧ n ≤ 64 ∧ Below w.heap.size w wr ∧ rIs (l.take k) (64 - n0) = some (64 - n)))
    case atStart => exact ⟨0, n0, hide rfl, rfl, rfl, hide ⟨Nat.zero_le _, H00.out.1, H00.out.2, Below.refl _ _, by rw [List.take_zero, rIs]⟩⟩
    case round =>
      obtain ⟨k, n, hu, rfl, rfl, hh⟩ := hrel
      have hkl := hh.out.1
      have hn0 := hh.out.2.1
      have hn64 := hh.out.2.2.1
      have HBR := hide hh.out.2.2.2.1
      by_cases hlt : k < l.length
      · have hlti : (k : Int) < (l.length : Int) := by omega
        obtain ⟨b, o, rfl, hb, hat⟩ := (HR.out.below ItAt.stable HBR.out).get hlt
        have hx := hat k hlt
        have HTK := hide (show rIs (l.take (k + 1)) (64 - n0) = rI l[k] (64 - n) by
          rw [take_snoc l k hlt, rIs_app, hh.out.2.2.2.2]
          exact rIs_one _ _)
        have hsz : SizeOf.sizeOf l[k].kids < N := by
          have h1 := sizeOf_kids l[k]
          have h2 := List.sizeOf_lt_of_mem (List.getElem_mem hlt)
          have := HN.out
          omega
        generalize l[k] = x at hx hsz HTK
        clear hat hh
        obtain ⟨kd, t, nn, kids⟩ := x
        obtain ⟨⟨hk1, ht1, hn1⟩, ak, ck, ⟨e0, e1, e2, e3⟩, hrow⟩ := hx.cells
        replace e0 : wr.cell? ⟨b, o + k * 4, none⟩ = some (.int .i64 kd) := e0
        replace e1 : wr.cell? ⟨b, o + k * 4 + 1, none⟩ = some (.string t) := e1
        replace e2 : wr.cell? ⟨b, o + k * 4 + 2, none⟩ = some (.int .i64 nn) := e2
        replace e3 : wr.cell? ⟨b, o + k * 4 + 3, none⟩ = some (.slice ak kids.length ck) := e3
        replace hsz : SizeOf.sizeOf kids < N := hsz
        have HRW := hide (show Row ItAt 4 kids ak wr from hrow)
        have hkl2 := HRW.out.1
        have hts : t.size ≤ 140737488351232 := ht1
        replace HTK := hide (show rIs (l.take (k + 1)) (64 - n0) = if badA n kd t nn = false ∧ badB kd t nn kids = false then rIs kids (64 - n - 1) else none by
          rw [HTK.out, rI]
          by_cases hq : okIt kd t nn kids = true ∧ 0 ≤ 64 - n - 1
          · rw [if_pos hq, if_pos ((okIt_bad n kd t nn kids).1 hq)]
          · rw [if_neg hq, if_neg (fun h => hq ((okIt_bad n kd t nn kids).2 h))])
        clear hx hrow hk1 ht1 hn1
        go_upto_region 6 with fail
        obtain ⟨ks, hks⟩ : ∃ ks, wr.heap.size = ks := ⟨_, rfl⟩
        obtain ⟨w6, h6⟩ : ∃ w6, wr.alloc (.cells #[.int .i64 kd, .string t, .int .i64 nn, .slice ak kids.length ck] 96) = w6 := ⟨_, rfl⟩
        have hb6 := hide (show Below wr.heap.size wr w6 by rw [← h6]; exact NB.alloc (Below.refl _ _) _)
        have HS6 := hide (show Blk w6 ks #[.int .i64 kd, .string t, .int .i64 nn, .slice ak kids.length ck] 96 by rw [← h6, ← hks]; exact Blk.new wr _ _)
        have HB6 := hide (below_next HBR.out hb6.out)
        have HR6 := hide (HRW.out.below ItAt.stable hb6.out)
        rw [h6, hks]
        clear h6 hks e0 e1 e2 e3 hb hb6 HRW
        have s0 := HS6.out.cell 0
        have s1 := HS6.out.cell 1
        have s2 := HS6.out.cell 2
        have s3 := HS6.out.cell 3
        have sl := HS6.out.lt
        obtain ⟨ba, hba⟩ : ∃ ba, badA n kd t nn = ba := ⟨_, rfl⟩
        obtain ⟨bb, hbb⟩ : ∃ bb, badB kd t nn kids = bb := ⟨_, rfl⟩
        have HBA := hide hba
        have HBB := hide hbb
        rw [hba, hbb] at HTK
        clear hba hbb
        go_cut [46] from 19 to 47 (fun v46 wc => v46 = .bool ba ∧ w6 = wc)
        case first =>
          by_cases a0 : 64 < n + 1
          case pos =>
            have d0 : decide (n + 1 > 64) = true := decide_eq_true (by omega)
            obtain rfl : true = ba := by rw [← HBA.out]; unfold badA; rw [decide_eq_true a0]; simp
            clear a0
            go_wp2_with fail
            go_meet
            exact ⟨rfl, rfl⟩
          have d0 : decide (n + 1 > 64) = false := decide_eq_false (by omega)
          have A0 := hide a0
          clear a0
          by_cases a1 : nn < 0
          case pos =>
            have d1 : decide (nn < 0) = true := decide_eq_true (by omega)
            obtain rfl : true = ba := by rw [← HBA.out]; unfold badA; rw [decide_eq_true a1]; simp
            clear a1
            go_wp2_with fail
            go_meet
            exact ⟨rfl, rfl⟩
          have d1 : decide (nn < 0) = false := decide_eq_false (by omega)
          have A1 := hide a1
          clear a1
          by_cases a2 : 999999 < nn
          case pos =>
            have d2 : decide (nn > 999999) = true := decide_eq_true (by omega)
            obtain rfl : true = ba := by rw [← HBA.out]; unfold badA; rw [decide_eq_true a2]; simp
            clear a2
            go_wp2_with fail
            go_meet
            exact ⟨rfl, rfl⟩
          have d2 : decide (nn > 999999) = false := decide_eq_false (by omega)
          have A2 := hide a2
          clear a2
          by_cases a3 : 32 < t.size
          case pos =>
            have d3 : decide ((t.size : Int) > 32) = true := decide_eq_true (by omega)
            obtain rfl : true = ba := by rw [← HBA.out]; unfold badA; rw [decide_eq_true a3]; simp
            clear a3
            go_wp2_with fail
            go_meet
            exact ⟨rfl, rfl⟩
          have d3 : decide ((t.size : Int) > 32) = false := decide_eq_false (by omega)
          have A3 := hide a3
          clear a3
          by_cases a4 : kd < 1
          case pos =>
            have d4 : decide (kd < 1) = true := decide_eq_true (by omega)
            obtain rfl : true = ba := by rw [← HBA.out]; unfold badA; rw [decide_eq_true a4]; simp
            clear a4
            go_wp2_with fail
            go_meet
            exact ⟨rfl, rfl⟩
          have d4 : decide (kd < 1) = false := decide_eq_false (by omega)
          have A4 := hide a4
          clear a4
          by_cases a5 : 6 < kd
          case pos =>
            have d5 : decide (kd > 6) = true := decide_eq_true (by omega)
            obtain rfl : true = ba := by rw [← HBA.out]; unfold badA; rw [decide_eq_true a5]; simp
            clear a5
            go_wp2_with fail
            go_meet
            exact ⟨rfl, rfl⟩
          have d5 : decide (kd > 6) = false := decide_eq_false (by omega)
          have A5 := hide a5
          clear a5
          obtain rfl : false = ba := by rw [← HBA.out]; unfold badA; rw [decide_eq_false A0.out, decide_eq_false A1.out, decide_eq_false A2.out, decide_eq_false A3.out, decide_eq_false A4.out, decide_eq_false A5.out]; rfl
          go_wp2_with fail
          go_meet
          exact ⟨rfl, rfl⟩
        case rest =>
          obtain ⟨rfl, rfl⟩ := hcut
          cases ba with
          | true =>
            have HF := hide (show res = -1 by rw [← HRES.out]; exact riR_none (k := k + 1) (by rw [HTK.out, if_neg (by simp)]))
            go_wp2_with fail
            go_ret
            exact ⟨by rw [HF.out]; rfl, HB6.out⟩
          | false =>
            have HKD := hide (show 1 ≤ kd ∧ kd ≤ 6 ∧ n + 1 ≤ 64 by
              have h := HBA.out
              unfold badA at h
              simp only [Bool.or_eq_false_iff, decide_eq_false_iff_not] at h
              omega)
            go_upto_region 8 with fail
            go_cut [80] from 47 to 81 (fun v80 wc => v80 = .bool bb ∧ w6 = wc)
            case first =>
              rcases (show kd = 1 ∨ kd = 2 ∨ kd = 3 ∨ kd = 4 ∨ kd = 5 ∨ kd = 6 by have := HKD.out; omega) with rfl | rfl | rfl | rfl | rfl | rfl
              · by_cases hn0 : nn = 0
                case neg =>
                  have m0 : (nn != 0) = true := by simpa using hn0
                  obtain rfl : true = bb := by rw [← HBB.out]; unfold badB; rw [show decide (nn = 0) = false from decide_eq_false hn0]; simp
                  clear hn0
                  go_wp2_with fail
                  go_meet
                  exact ⟨rfl, rfl⟩
                have m0 : (nn != 0) = false := by rw [hn0]; rfl
                have ZN := hide hn0
                clear hn0
                by_cases hl0 : kids.length = 0
                case neg =>
                  have l0 : decide ((kids.length : Int) > 0) = true := decide_eq_true (by omega)
                  have l0b : decide (0 < kids.length) = true := decide_eq_true (by omega)
                  obtain rfl : true = bb := by rw [← HBB.out]; unfold badB; rw [show decide (kids.length = 0) = false from decide_eq_false hl0]; simp
                  clear hl0
                  go_wp2_with fail
                  go_meet
                  exact ⟨rfl, rfl⟩
                have l0 : decide ((kids.length : Int) > 0) = false := decide_eq_false (by omega)
                have l0b : decide (0 < kids.length) = false := decide_eq_false (by omega)
                have ZL := hide hl0
                clear hl0
                obtain rfl : false = bb := by rw [← HBB.out]; unfold badB; rw [show decide (nn = 0) = true from decide_eq_true ZN.out, show decide (kids.length = 0) = true from decide_eq_true ZL.out]; simp
                go_wp2_with fail
                go_meet
                exact ⟨rfl, rfl⟩
              · rcases emp_or t with ⟨bn, zn, yn, vn, xn⟩ | ⟨bn, zn, yn, vn, xn⟩
                case inr =>
                  have hne : (t.toList == []) = false := beq_eq_false_iff_ne.2 xn
                  have hne2 : (!t.toList == []) = true := by rw [hne]; rfl
                  obtain rfl : true = bb := by rw [← HBB.out]; unfold badB; rw [zn.out]; simp
                  go_wp2_with fail
                  go_meet
                  exact ⟨rfl, rfl⟩
                have hne : (t.toList == []) = true := by rw [xn]; rfl
                have hne2 : (!t.toList == []) = false := by rw [hne]; rfl
                have ZE := hide zn.out
                clear zn yn vn xn
                by_cases hl0 : kids.length = 0
                case neg =>
                  have l0 : decide ((kids.length : Int) > 0) = true := decide_eq_true (by omega)
                  have l0b : decide (0 < kids.length) = true := decide_eq_true (by omega)
                  obtain rfl : true = bb := by rw [← HBB.out]; unfold badB; rw [show decide (kids.length = 0) = false from decide_eq_false hl0]; simp
                  clear hl0
                  go_wp2_with fail
                  go_meet
                  exact ⟨rfl, rfl⟩
                have l0 : decide ((kids.length : Int) > 0) = false := decide_eq_false (by omega)
                have l0b : decide (0 < kids.length) = false := decide_eq_false (by omega)
                have ZL := hide hl0
                clear hl0
                obtain rfl : false = bb := by rw [← HBB.out]; unfold badB; rw [ZE.out, show decide (kids.length = 0) = true from decide_eq_true ZL.out]; simp
                go_wp2_with fail
                go_meet
                exact ⟨rfl, rfl⟩
              · rcases emp_or t with ⟨bn, zn, yn, vn, xn⟩ | ⟨bn, zn, yn, vn, xn⟩
                case inr =>
                  have hne : (t.toList == []) = false := beq_eq_false_iff_ne.2 xn
                  have hne2 : (!t.toList == []) = true := by rw [hne]; rfl
                  obtain rfl : true = bb := by rw [← HBB.out]; unfold badB; rw [zn.out]; simp
                  go_wp2_with fail
                  go_meet
                  exact ⟨rfl, rfl⟩
                have hne : (t.toList == []) = true := by rw [xn]; rfl
                have hne2 : (!t.toList == []) = false := by rw [hne]; rfl
                have ZE := hide zn.out
                clear zn yn vn xn
                by_cases hn0 : nn = 0
                case neg =>
                  have m0 : (nn != 0) = true := by simpa using hn0
                  obtain rfl : true = bb := by rw [← HBB.out]; unfold badB; rw [show decide (nn = 0) = false from decide_eq_false hn0]; simp
                  clear hn0
                  go_wp2_with fail
                  go_meet
                  exact ⟨rfl, rfl⟩
                have m0 : (nn != 0) = false := by rw [hn0]; rfl
                have ZN := hide hn0
                clear hn0
                by_cases hl0 : kids.length = 0
                case neg =>
                  have l0 : decide ((kids.length : Int) > 0) = true := decide_eq_true (by omega)
                  have l0b : decide (0 < kids.length) = true := decide_eq_true (by omega)
                  obtain rfl : true = bb := by rw [← HBB.out]; unfold badB; rw [show decide (kids.length = 0) = false from decide_eq_false hl0]; simp
                  clear hl0
                  go_wp2_with fail
                  go_meet
                  exact ⟨rfl, rfl⟩
                have l0 : decide ((kids.length : Int) > 0) = false := decide_eq_false (by omega)
                have l0b : decide (0 < kids.length) = false := decide_eq_false (by omega)
                have ZL := hide hl0
                clear hl0
                obtain rfl : false = bb := by rw [← HBB.out]; unfold badB; rw [ZE.out, show decide (nn = 0) = true from decide_eq_true ZN.out, show decide (kids.length = 0) = true from decide_eq_true ZL.out]; simp
                go_wp2_with fail
                go_meet
                exact ⟨rfl, rfl⟩
              · rcases emp_or t with ⟨bn, zn, yn, vn, xn⟩ | ⟨bn, zn, yn, vn, xn⟩
                case inr =>
                  have hne : (t.toList == []) = false := beq_eq_false_iff_ne.2 xn
                  have hne2 : (!t.toList == []) = true := by rw [hne]; rfl
                  obtain rfl : true = bb := by rw [← HBB.out]; unfold badB; rw [zn.out]; simp
                  go_wp2_with fail
                  go_meet
                  exact ⟨rfl, rfl⟩
                have hne : (t.toList == []) = true := by rw [xn]; rfl
                have hne2 : (!t.toList == []) = false := by rw [hne]; rfl
                have ZE := hide zn.out
                clear zn yn vn xn
                by_cases hn0 : nn = 0
                case neg =>
                  have m0 : (nn != 0) = true := by simpa using hn0
                  obtain rfl : true = bb := by rw [← HBB.out]; unfold badB; rw [show decide (nn = 0) = false from decide_eq_false hn0]; simp
                  clear hn0
                  go_wp2_with fail
                  go_meet
                  exact ⟨rfl, rfl⟩
                have m0 : (nn != 0) = false := by rw [hn0]; rfl
                have ZN := hide hn0
                clear hn0
                by_cases hl0 : kids.length = 0
                case neg =>
                  have l0 : decide ((kids.length : Int) > 0) = true := decide_eq_true (by omega)
                  have l0b : decide (0 < kids.length) = true := decide_eq_true (by omega)
                  obtain rfl : true = bb := by rw [← HBB.out]; unfold badB; rw [show decide (kids.length = 0) = false from decide_eq_false hl0]; simp
                  clear hl0
                  go_wp2_with fail
                  go_meet
                  exact ⟨rfl, rfl⟩
                have l0 : decide ((kids.length : Int) > 0) = false := decide_eq_false (by omega)
                have l0b : decide (0 < kids.length) = false := decide_eq_false (by omega)
                have ZL := hide hl0
                clear hl0
                obtain rfl : false = bb := by rw [← HBB.out]; unfold badB; rw [ZE.out, show decide (nn = 0) = true from decide_eq_true ZN.out, show decide (kids.length = 0) = true from decide_eq_true ZL.out]; simp
                go_wp2_with fail
                go_meet
                exact ⟨rfl, rfl⟩
              · rcases emp_or t with ⟨bn, zn, yn, vn, xn⟩ | ⟨bn, zn, yn, vn, xn⟩
                case inr =>
                  have hne : (t.toList == []) = false := beq_eq_false_iff_ne.2 xn
                  have hne2 : (!t.toList == []) = true := by rw [hne]; rfl
                  obtain rfl : true = bb := by rw [← HBB.out]; unfold badB; rw [zn.out]; simp
                  go_wp2_with fail
                  go_meet
                  exact ⟨rfl, rfl⟩
                have hne : (t.toList == []) = true := by rw [xn]; rfl
                have hne2 : (!t.toList == []) = false := by rw [hne]; rfl
                have ZE := hide zn.out
                clear zn yn vn xn
                obtain rfl : false = bb := by rw [← HBB.out]; unfold badB; rw [ZE.out]; simp
                go_wp2_with fail
                go_meet
                exact ⟨rfl, rfl⟩
              · rcases emp_or t with ⟨bn, zn, yn, vn, xn⟩ | ⟨bn, zn, yn, vn, xn⟩
                case inr =>
                  have hne : (t.toList == []) = false := beq_eq_false_iff_ne.2 xn
                  have hne2 : (!t.toList == []) = true := by rw [hne]; rfl
                  obtain rfl : true = bb := by rw [← HBB.out]; unfold badB; rw [zn.out]; simp
                  go_wp2_with fail
                  go_meet
                  exact ⟨rfl, rfl⟩
                have hne : (t.toList == []) = true := by rw [xn]; rfl
                have hne2 : (!t.toList == []) = false := by rw [hne]; rfl
                have ZE := hide zn.out
                clear zn yn vn xn
                by_cases hn0 : nn = 0
                case neg =>
                  have m0 : (nn != 0) = true := by simpa using hn0
                  obtain rfl : true = bb := by rw [← HBB.out]; unfold badB; rw [show decide (nn = 0) = false from decide_eq_false hn0]; simp
                  clear hn0
                  go_wp2_with fail
                  go_meet
                  exact ⟨rfl, rfl⟩
                have m0 : (nn != 0) = false := by rw [hn0]; rfl
                have ZN := hide hn0
                clear hn0
                obtain rfl : false = bb := by rw [← HBB.out]; unfold badB; rw [ZE.out, show decide (nn = 0) = true from decide_eq_true ZN.out]; simp
                go_wp2_with fail
                go_meet
                exact ⟨rfl, rfl⟩
            case rest =>
              obtain ⟨rfl, rfl⟩ := hcut
              cases bb with
              | true =>
                have HF := hide (show res = -1 by rw [← HRES.out]; exact riR_none (k := k + 1) (by rw [HTK.out, if_neg (by simp)]))
                go_wp2_with fail
                go_ret
                exact ⟨by rw [HF.out]; rfl, HB6.out⟩
              | false =>
                replace HTK := hide (show rIs (l.take (k + 1)) (64 - n0) = rIs kids (64 - (n + 1)) by rw [HTK.out, if_pos ⟨rfl, rfl⟩, show 64 - n - 1 = 64 - (n + 1) by omega])
                have hn1 := HKD.out.2.2
                have HC := hide (IH.out kids hsz (n + 1) (by omega) (by omega) ak ck w6 HR6.out)
                go_wp2_with fail
                refine HC.out.mono ?_
                rintro e w7 ⟨rfl, hb7⟩
                have HB7 := hide (below_next HB6.out hb7)
                clear hb7 s0 s1 s2 s3 sl HC
                cases hrk : rIs kids (64 - (n + 1)) with
                | none =>
                  have hri : riR kids (n + 1) = -1 := by unfold riR; rw [hrk]
                  rw [hri]
                  have HF := hide (show res = -1 by rw [← HRES.out]; exact riR_none (k := k + 1) (by rw [HTK.out, hrk]))
                  clear hrk hri
                  go_wp2_with fail
                  go_ret
                  exact ⟨by rw [HF.out]; rfl, HB7.out⟩
                | some kk =>
                  have hkk := rI_le.rIs_le kids (64 - (n + 1)) kk hrk
                  have hk0 := hkk.2 (by omega)
                  have hri : riR kids (n + 1) = 64 - kk := by unfold riR; rw [hrk]
                  rw [hri]
                  have HN2 := hide (show rIs (l.take (k + 1)) (64 - n0) = some (64 - (64 - kk)) by rw [HTK.out, hrk]; congr 1; omega)
                  have g0 : 0 ≤ 64 - kk := by omega
                  have g1 : 64 - kk ≤ 64 := by omega
                  have d9 : decide (64 - kk < 0) = false := decide_eq_false (by omega)
                  obtain ⟨n2, hn2⟩ : ∃ n2, 64 - kk = n2 := ⟨_, rfl⟩
                  rw [hn2] at HN2 g0 g1 d9 ⊢
                  clear hrk hri hkk hk0 hn2
                  go_wp2_with fail
                  go_roundg (l.length - (k + 1))
                  case measure => rw [hu.out]; omega
                  case rel => exact ⟨k + 1, n2, hide rfl, by go_num, rfl, hide ⟨hlt, g0, g1, HB7.out, HN2.out⟩⟩
      · have hlti : ¬ (k : Int) < (l.length : Int) := by omega
        have HF := hide (show res = n by
          have h1 := hh.out.2.2.2.2
          rw [List.take_of_length_le (by omega)] at h1
          rw [← HRES.out]
          unfold riR
          rw [h1]
          simp only
          omega)
        go_wp2_with fail
        go_ret
        exact ⟨by rw [HF.out]; rfl, HBR.out⟩
end Go.Proofs.Ytalicfpcmcbdbaa

set_option linter.unusedVariables false
set_option linter.unusedSimpArgs false
set_option linter.unnecessarySimpa false
set_option linter.deprecated false
namespace Go.Proofs.Ytalicfpcmcbdbaa
open Go.RowKit

set_option maxHeartbeats 3200000 in
set_option maxRecDepth 100000 in
theorem refRight_any (d : Df) (a2 : Option Addr) (c2 : Nat) (a3 : Option Addr) (c3 : Nat) (a4 : Option Addr) (c4 : Nat) (a5 : Option Addr) (c5 : Nat) (a6 : Option Addr) (c6 : Nat) (w : World) (hd : RD d ⟨a2, c2, a3, c3, a4, c4, a5, c5, a6, c6⟩ w)  : Calls Try.prog 75 #[.agg #[.string d.start, .string d.layout, .slice a2 d.prods.length c2, .slice a3 d.chains.length c3, .slice a4 d.follows.length c4, .slice a5 d.rejects.length c5, .slice a6 d.boxes.length c6]] w fun e w' => e = .returned (.bool (rightDfB d)) ∧ Below w.heap.size w w' := by
  have HST := hide hd.s
  have HLY := hide hd.l
  have hl2 := hd.p.1
  have hl3 := hd.c.1
  have hl4 := hd.f.1
  have hl5 := hd.j.1
  have hl6 := hd.x.1
  have HD := hide hd
  obtain ⟨res, hres⟩ : ∃ r, rightDfB d = r := ⟨_, rfl⟩
  rw [hres]
  have HRES := hide hres
  clear hres hd
  go_enter Try.func75, Try.ntmps75
  go_upto_region 1 with fail
  obtain ⟨kx, hkx⟩ : ∃ kx, w.heap.size = kx := ⟨_, rfl⟩
  obtain ⟨w1, h1⟩ : ∃ w1, w.alloc (.cells #[.string d.start, .string d.layout, .slice a2 d.prods.length c2, .slice a3 d.chains.length c3, .slice a4 d.follows.length c4, .slice a5 d.rejects.length c5, .slice a6 d.boxes.length c6] 28) = w1 := ⟨_, rfl⟩
  have HB0 := hide (show Below w.heap.size w w1 by rw [← h1]; exact NB.alloc (Below.refl _ _) _)
  have HX0 := hide (show Blk w1 kx #[.string d.start, .string d.layout, .slice a2 d.prods.length c2, .slice a3 d.chains.length c3, .slice a4 d.follows.length c4, .slice a5 d.rejects.length c5, .slice a6 d.boxes.length c6] 28 by rw [← h1, ← hkx]; exact Blk.new w _ _)
  replace HD := hide (HD.out.below HB0.out)
  rw [h1, hkx]
  clear h1 hkx
  have x0 := HX0.out.cell 0
  have x1 := HX0.out.cell 1
  have x2 := HX0.out.cell 2
  have x3 := HX0.out.cell 3
  have x4 := HX0.out.cell 4
  have x5 := HX0.out.cell 5
  have x6 := HX0.out.cell 6
  have xl := HX0.out.lt
  have HN1 := hide (refName_any d.start true w1 HST.out)
  have HN2 := hide (refName_any d.layout true w1 HLY.out)
  have HR := hide (show res = (namedB d.start true && (namedB d.layout true && (decide (d.prods.length ≤ 200) && (d.prods.all rightPdB && (d.chains.all rightChB && (d.follows.all rightFlB && (d.rejects.all rightRjB && d.boxes.all rightBxB))))))) by rw [← HRES.out]; rfl)
  obtain ⟨b1, hb1⟩ : ∃ b1, namedB d.start true = b1 := ⟨_, rfl⟩
  obtain ⟨b2, hb2⟩ : ∃ b2, namedB d.layout true = b2 := ⟨_, rfl⟩
  rw [hb1] at HN1 HR
  rw [hb2] at HN2 HR
  clear hb1 hb2
  go_wp2_with fail
  refine HN1.out.mono ?_
  rintro e w' ⟨rfl, rfl⟩
  cases b1 with
  | false =>
    have HF := hide (show res = false by rw [HR.out]; rfl)
    go_wp2_with fail
    go_ret
    exact ⟨by rw [HF.out]; rfl, HB0.out⟩
  | true =>
    go_wp2_with fail
    refine HN2.out.mono ?_
    rintro e w' ⟨rfl, rfl⟩
    cases b2 with
    | false =>
      have HF := hide (show res = false by rw [HR.out]; rfl)
      go_wp2_with fail
      go_ret
      exact ⟨by rw [HF.out]; rfl, HB0.out⟩
    | true =>
      by_cases h1 : d.prods.length ≤ 200
      case neg =>
        have d1 : decide ((d.prods.length : Int) > 200) = true := decide_eq_true (by omega)
        have HF := hide (show res = false by rw [HR.out, decide_eq_false h1]; rfl)
        clear h1
        go_wp2_with fail
        go_ret
        exact ⟨by rw [HF.out]; rfl, HB0.out⟩
      have d1 : decide ((d.prods.length : Int) > 200) = false := decide_eq_false (by omega)
      have HR0 := hide (show res = (d.prods.all rightPdB && (d.chains.all rightChB && (d.follows.all rightFlB && (d.rejects.all rightRjB && d.boxes.all rightBxB)))) by rw [HR.out, decide_eq_true h1]; rfl)
      clear h1 HR HRES HN1 HN2 x0 x1 x3 x4 x5 x6
      go_wp2_with fail
      go_loopg [3] d.prods.length (fun u v wr => ∃ k : Nat, Hid (u = d.prods.length - k) ∧ v = .int .i64 (k : Int) ∧ Hid (k ≤ d.prods.length ∧ Below w1.heap.size w1 wr ∧ ∀ j (h : j < d.prods.length), j < k → rightPdB d.prods[j] = true))
      case atStart => exact ⟨0, hide rfl, rfl, hide ⟨Nat.zero_le _, Below.refl _ _, none_to (f := rightPdB) rfl⟩⟩
      case round =>
        obtain ⟨k, hu, rfl, hh⟩ := hrel
        have hkl := hh.out.1
        have HBR := hide hh.out.2.1
        clear xl x2
        have x2 := (HX0.out.below HBR.out).cell 2
        have xl := (HX0.out.below HBR.out).lt
        by_cases hlt : k < d.prods.length
        · have hlti : (k : Int) < (d.prods.length : Int) := by omega
          obtain ⟨b, o, rfl, hb, hat⟩ := (HD.out.below HBR.out).p.get hlt
          have hx := hat k hlt
          have HALL := hide (fun (h : rightPdB d.prods[k] = true) => all_next (f := rightPdB) (k := k) (x := d.prods[k]) hh.out.2.2 (fun _ => rfl) h)
          have HNO := hide (fun (h : rightPdB d.prods[k] = false) => (show res = false by rw [HR0.out, all_not rightPdB d.prods k hlt h] <;> simp))
          generalize d.prods[k] = x at hx HALL HNO
          clear hat hh
          obtain ⟨lx, so, cn, br, sy⟩ := x
          obtain ⟨ap, cp, ⟨e0, e1, e2, e3, e4⟩, hrow⟩ := hx.cells
          have HC := hide (refProd_any ⟨lx, so, cn, br, sy⟩ ap cp wr hx.1 hrow)
          have hsl := hrow.1
          clear hx hrow
          cases hq : rightPdB (Pd.mk lx so cn br sy) with
          | true =>
            have HA2 := hide (HALL.out hq)
            rw [hq] at HC
            clear hq
            go_wp2_with fail
            refine HC.out.mono ?_
            rintro e w7 ⟨rfl, hb7⟩
            have HB7 := hide (below_next HBR.out hb7)
            clear hb7
            go_wp2_with fail
            go_roundg (d.prods.length - (k + 1))
            case measure => rw [hu.out]; omega
            case rel => exact ⟨k + 1, hide rfl, by go_num, hide ⟨hlt, HB7.out, HA2.out⟩⟩
          | false =>
            have HF := hide (HNO.out hq)
            rw [hq] at HC
            clear hq
            go_wp2_with fail
            refine HC.out.mono ?_
            rintro e w7 ⟨rfl, hb7⟩
            have HB7 := hide (below_next HBR.out hb7)
            clear hb7
            go_wp2_with fail
            go_ret
            exact ⟨by rw [HF.out]; rfl, below_next HB0.out HB7.out⟩
        · have hlti : ¬ (k : Int) < (d.prods.length : Int) := by omega
          have HR1 := hide (show res = (d.chains.all rightChB && (d.follows.all rightFlB && (d.rejects.all rightRjB && d.boxes.all rightBxB))) by rw [HR0.out, all_to rightPdB d.prods (fun j h => hh.out.2.2 j h (by omega))] <;> rfl)
          have x3 := (HX0.out.below HBR.out).cell 3
          go_wp2_with fail
          go_loopg [4] d.chains.length (fun u v wr => ∃ k : Nat, Hid (u = d.chains.length - k) ∧ v = .int .i64 (k : Int) ∧ Hid (k ≤ d.chains.length ∧ Below w1.heap.size w1 wr ∧ ∀ j (h : j < d.chains.length), j < k → rightChB d.chains[j] = true))
          case atStart => exact ⟨0, hide rfl, rfl, hide ⟨Nat.zero_le _, HBR.out, none_to (f := rightChB) rfl⟩⟩
          case round =>
            obtain ⟨k, hu, rfl, hh⟩ := hrel
            have hkl := hh.out.1
            clear HBR
            have HBR := hide hh.out.2.1
            clear xl x3
            have x3 := (HX0.out.below HBR.out).cell 3
            have xl := (HX0.out.below HBR.out).lt
            by_cases hlt : k < d.chains.length
            · have hlti : (k : Int) < (d.chains.length : Int) := by omega
              obtain ⟨b, o, rfl, hb, hat⟩ := (HD.out.below HBR.out).c.get hlt
              have hx := hat k hlt
              have HALL := hide (fun (h : rightChB d.chains[k] = true) => all_next (f := rightChB) (k := k) (x := d.chains[k]) hh.out.2.2 (fun _ => rfl) h)
              have HNO := hide (fun (h : rightChB d.chains[k] = false) => (show res = false by rw [HR1.out, all_not rightChB d.chains k hlt h] <;> simp))
              generalize d.chains[k] = x at hx HALL HNO
              clear hat hh
              obtain ⟨ac, cc, e0, hrow⟩ := hx
              rw [Nat.mul_one] at e0
              have HC := hide (refChain_any x ac cc wr hrow)
              have hsl := hrow.1
              clear hrow
              cases hq : rightChB x with
              | true =>
                have HA2 := hide (HALL.out hq)
                rw [hq] at HC
                clear hq
                go_wp2_with fail
                refine HC.out.mono ?_
                rintro e w7 ⟨rfl, hb7⟩
                have HB7 := hide (below_next HBR.out hb7)
                clear hb7
                go_wp2_with fail
                go_roundg (d.chains.length - (k + 1))
                case measure => rw [hu.out]; omega
                case rel => exact ⟨k + 1, hide rfl, by go_num, hide ⟨hlt, HB7.out, HA2.out⟩⟩
              | false =>
                have HF := hide (HNO.out hq)
                rw [hq] at HC
                clear hq
                go_wp2_with fail
                refine HC.out.mono ?_
                rintro e w7 ⟨rfl, hb7⟩
                have HB7 := hide (below_next HBR.out hb7)
                clear hb7
                go_wp2_with fail
                go_ret
                exact ⟨by rw [HF.out]; rfl, below_next HB0.out HB7.out⟩
            · have hlti : ¬ (k : Int) < (d.chains.length : Int) := by omega
              have HR2 := hide (show res = (d.follows.all rightFlB && (d.rejects.all rightRjB && d.boxes.all rightBxB)) by rw [HR1.out, all_to rightChB d.chains (fun j h => hh.out.2.2 j h (by omega))] <;> rfl)
              have x4 := (HX0.out.below HBR.out).cell 4
              go_wp2_with fail
              go_loopg [5] d.follows.length (fun u v wr => ∃ k : Nat, Hid (u = d.follows.length - k) ∧ v = .int .i64 (k : Int) ∧ Hid (k ≤ d.follows.length ∧ Below w1.heap.size w1 wr ∧ ∀ j (h : j < d.follows.length), j < k → rightFlB d.follows[j] = true))
              case atStart => exact ⟨0, hide rfl, rfl, hide ⟨Nat.zero_le _, HBR.out, none_to (f := rightFlB) rfl⟩⟩
              case round =>
                obtain ⟨k, hu, rfl, hh⟩ := hrel
                have hkl := hh.out.1
                clear HBR
                have HBR := hide hh.out.2.1
                clear xl x4
                have x4 := (HX0.out.below HBR.out).cell 4
                have xl := (HX0.out.below HBR.out).lt
                by_cases hlt : k < d.follows.length
                · have hlti : (k : Int) < (d.follows.length : Int) := by omega
                  obtain ⟨b, o, rfl, hb, hat⟩ := (HD.out.below HBR.out).f.get hlt
                  have hx := hat k hlt
                  have HALL := hide (fun (h : rightFlB d.follows[k] = true) => all_next (f := rightFlB) (k := k) (x := d.follows[k]) hh.out.2.2 (fun _ => rfl) h)
                  have HNO := hide (fun (h : rightFlB d.follows[k] = false) => (show res = false by rw [HR2.out, all_not rightFlB d.follows k hlt h] <;> simp))
                  generalize d.follows[k] = x at hx HALL HNO
                  clear hat hh
                  obtain ⟨so, st⟩ := x
                  obtain ⟨e0, e1, e2, e3, e4⟩ := hx.cells
                  have HC := hide (refName_any so false wr hx.1.n)
                  clear hx e1 e2 e3 e4
                  cases hq : namedB so false with
                  | true =>
                    have HA2 := hide (HALL.out hq)
                    rw [hq] at HC
                    clear hq
                    go_wp2_with fail
                    refine HC.out.mono ?_
                    rintro e w7 ⟨rfl, rfl⟩
                    go_wp2_with fail
                    go_roundg (d.follows.length - (k + 1))
                    case measure => rw [hu.out]; omega
                    case rel => exact ⟨k + 1, hide rfl, by go_num, hide ⟨hlt, HBR.out, HA2.out⟩⟩
                  | false =>
                    have HF := hide (HNO.out hq)
                    rw [hq] at HC
                    clear hq
                    go_wp2_with fail
                    refine HC.out.mono ?_
                    rintro e w7 ⟨rfl, rfl⟩
                    go_wp2_with fail
                    go_ret
                    exact ⟨by rw [HF.out]; rfl, below_next HB0.out HBR.out⟩
                · have hlti : ¬ (k : Int) < (d.follows.length : Int) := by omega
                  have HR3 := hide (show res = (d.rejects.all rightRjB && d.boxes.all rightBxB) by rw [HR2.out, all_to rightFlB d.follows (fun j h => hh.out.2.2 j h (by omega))] <;> rfl)
                  have x5 := (HX0.out.below HBR.out).cell 5
                  go_wp2_with fail
                  go_loopg [6] d.rejects.length (fun u v wr => ∃ k : Nat, Hid (u = d.rejects.length - k) ∧ v = .int .i64 (k : Int) ∧ Hid (k ≤ d.rejects.length ∧ Below w1.heap.size w1 wr ∧ ∀ j (h : j < d.rejects.length), j < k → rightRjB d.rejects[j] = true))
                  case atStart => exact ⟨0, hide rfl, rfl, hide ⟨Nat.zero_le _, HBR.out, none_to (f := rightRjB) rfl⟩⟩
                  case round =>
                    obtain ⟨k, hu, rfl, hh⟩ := hrel
                    have hkl := hh.out.1
                    clear HBR
                    have HBR := hide hh.out.2.1
                    clear xl x5
                    have x5 := (HX0.out.below HBR.out).cell 5
                    have xl := (HX0.out.below HBR.out).lt
                    by_cases hlt : k < d.rejects.length
                    · have hlti : (k : Int) < (d.rejects.length : Int) := by omega
                      obtain ⟨b, o, rfl, hb, hat⟩ := (HD.out.below HBR.out).j.get hlt
                      have hx := hat k hlt
                      have HALL := hide (fun (h : rightRjB d.rejects[k] = true) => all_next (f := rightRjB) (k := k) (x := d.rejects[k]) hh.out.2.2 (fun _ => rfl) h)
                      have HNO := hide (fun (h : rightRjB d.rejects[k] = false) => (show res = false by rw [HR3.out, all_not rightRjB d.rejects k hlt h] <;> simp))
                      generalize d.rejects[k] = x at hx HALL HNO
                      clear hat hh
                      obtain ⟨so, by_⟩ := x
                      obtain ⟨e0, e1⟩ := hx.cells
                      have HC := hide (refName_any so false wr hx.1.1)
                      have HC2 := hide (refName_any by_ false wr hx.1.2)
                      clear hx
                      cases hq : namedB so false with
                      | false =>
                        have HF := hide (HNO.out (by unfold rightRjB; rw [hq]; rfl))
                        rw [hq] at HC
                        clear hq
                        go_wp2_with fail
                        refine HC.out.mono ?_
                        rintro e w7 ⟨rfl, rfl⟩
                        go_wp2_with fail
                        go_ret
                        exact ⟨by rw [HF.out]; rfl, below_next HB0.out HBR.out⟩
                      | true =>
                        rw [hq] at HC
                        have HQ1 := hide hq
                        clear hq
                        go_wp2_with fail
                        refine HC.out.mono ?_
                        rintro e w7 ⟨rfl, rfl⟩
                        cases hq : namedB by_ false with
                        | false =>
                          have HF := hide (HNO.out (by unfold rightRjB; rw [hq]; simp))
                          rw [hq] at HC2
                          clear hq
                          go_wp2_with fail
                          refine HC2.out.mono ?_
                          rintro e w7 ⟨rfl, rfl⟩
                          go_wp2_with fail
                          go_ret
                          exact ⟨by rw [HF.out]; rfl, below_next HB0.out HBR.out⟩
                        | true =>
                          have HA2 := hide (HALL.out (by unfold rightRjB; rw [hq, HQ1.out] <;> rfl))
                          rw [hq] at HC2
                          clear hq
                          go_wp2_with fail
                          refine HC2.out.mono ?_
                          rintro e w7 ⟨rfl, rfl⟩
                          go_wp2_with fail
                          go_roundg (d.rejects.length - (k + 1))
                          case measure => rw [hu.out]; omega
                          case rel => exact ⟨k + 1, hide rfl, by go_num, hide ⟨hlt, HBR.out, HA2.out⟩⟩
                    · have hlti : ¬ (k : Int) < (d.rejects.length : Int) := by omega
                      have HR4 := hide (show res = d.boxes.all rightBxB by rw [HR3.out, all_to rightRjB d.rejects (fun j h => hh.out.2.2 j h (by omega))] <;> rfl)
                      have x6 := (HX0.out.below HBR.out).cell 6
                      go_wp2_with fail
                      go_loopg [7] d.boxes.length (fun u v wr => ∃ k : Nat, Hid (u = d.boxes.length - k) ∧ v = .int .i64 (k : Int) ∧ Hid (k ≤ d.boxes.length ∧ Below w1.heap.size w1 wr ∧ ∀ j (h : j < d.boxes.length), j < k → rightBxB d.boxes[j] = true))
                      case atStart => exact ⟨0, hide rfl, rfl, hide ⟨Nat.zero_le _, HBR.out, none_to (f := rightBxB) rfl⟩⟩
                      case round =>
                        obtain ⟨k, hu, rfl, hh⟩ := hrel
                        have hkl := hh.out.1
                        clear HBR
                        have HBR := hide hh.out.2.1
                        clear xl x6
                        have x6 := (HX0.out.below HBR.out).cell 6
                        have xl := (HX0.out.below HBR.out).lt
                        by_cases hlt : k < d.boxes.length
                        · have hlti : (k : Int) < (d.boxes.length : Int) := by omega
                          obtain ⟨b, o, rfl, hb, hat⟩ := (HD.out.below HBR.out).x.get hlt
                          have hx := hat k hlt
                          have HALL := hide (fun (h : rightBxB d.boxes[k] = true) => all_next (f := rightBxB) (k := k) (x := d.boxes[k]) hh.out.2.2 (fun _ => rfl) h)
                          have HNO := hide (fun (h : rightBxB d.boxes[k] = false) => (show res = false by rw [HR4.out, all_not rightBxB d.boxes k hlt h] <;> simp))
                          generalize d.boxes[k] = x at hx HALL HNO
                          clear hat hh
                          obtain ⟨cn, its⟩ := x
                          obtain ⟨hcn, ai, ci, hca, hri⟩ := hx
                          have e0 := hca 0 _ rfl
                          have e1 := hca 1 _ rfl
                          rw [Nat.add_zero] at e0
                          have HC := hide (refName_any cn false wr hcn)
                          have HC2 := hide (refItems_all _ its (Nat.lt_succ_self _) 0 (by decide) (by decide) ai ci wr hri)
                          have hil := hri.1
                          clear hcn hca hri
                          cases hq : namedB cn false with
                          | false =>
                            have HF := hide (HNO.out (by unfold rightBxB; rw [hq]; rfl))
                            rw [hq] at HC
                            clear hq
                            go_wp2_with fail
                            refine HC.out.mono ?_
                            rintro e w7 ⟨rfl, rfl⟩
                            go_wp2_with fail
                            go_ret
                            exact ⟨by rw [HF.out]; rfl, below_next HB0.out HBR.out⟩
                          | true =>
                            rw [hq] at HC
                            have HQ1 := hide hq
                            clear hq
                            go_wp2_with fail
                            refine HC.out.mono ?_
                            rintro e w7 ⟨rfl, rfl⟩
                            go_wp2_with fail
                            refine HC2.out.mono ?_
                            rintro e w7 ⟨rfl, hb7⟩
                            have HB7 := hide (below_next HBR.out hb7)
                            clear hb7
                            cases hk : rIs its 64 with
                            | none =>
                              have hri : riR its 0 = -1 := by unfold riR; rw [show (64 : Int) - 0 = 64 by decide, hk]
                              rw [hri]
                              have HF := hide (HNO.out (by unfold rightBxB; rw [show (Bx.mk cn its).items = its from rfl, hk]; simp))
                              clear hk hri
                              go_wp2_with fail
                              go_ret
                              exact ⟨by rw [HF.out]; rfl, below_next HB0.out HB7.out⟩
                            | some kk =>
                              have hkk := rI_le.rIs_le its 64 kk hk
                              have hri : riR its 0 = 64 - kk := by unfold riR; rw [show (64 : Int) - 0 = 64 by decide, hk]
                              rw [hri]
                              have HA2 := hide (HALL.out (by unfold rightBxB; rw [show (Bx.mk cn its).items = its from rfl, hk, show (Bx.mk cn its).cons = cn from rfl, HQ1.out]; rfl))
                              have d9 : decide (64 - kk < 0) = false := decide_eq_false (by omega)
                              obtain ⟨n2, hn2⟩ : ∃ n2, 64 - kk = n2 := ⟨_, rfl⟩
                              rw [hn2] at d9 ⊢
                              clear hk hri hkk hn2
                              go_wp2_with fail
                              go_roundg (d.boxes.length - (k + 1))
                              case measure => rw [hu.out]; omega
                              case rel => exact ⟨k + 1, hide rfl, by go_num, hide ⟨hlt, HB7.out, HA2.out⟩⟩
                        · have hlti : ¬ (k : Int) < (d.boxes.length : Int) := by omega
                          have HR5 := hide (show res = true by rw [HR4.out, all_to rightBxB d.boxes (fun j h => hh.out.2.2 j h (by omega))] <;> rfl)
                          have HF := hide (show res = true by rw [HR5.out])
                          go_wp2_with fail
                          go_ret
                          exact ⟨by rw [HF.out]; rfl, below_next HB0.out HBR.out⟩
end Go.Proofs.Ytalicfpcmcbdbaa
