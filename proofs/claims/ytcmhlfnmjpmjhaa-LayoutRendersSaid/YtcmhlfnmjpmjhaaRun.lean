/- The walk of run. -/
import Derived.Test.YtcmhlfnmjpmjhaaRunM
set_option linter.unusedVariables false
set_option linter.unusedSimpArgs false
set_option linter.unnecessarySimpa false
set_option linter.deprecated false
namespace Go.Proofs.Ytcmhlfnmjpmjhaa
open Go.RowKit

/-- What a document is written as, in a width. -/
def outM (d : Dc) (width : Int) : Wst := runM (cntJ (jobOf d 0)) { out := [], col := 0, wid := max width 0, brk := 0, long := false } [jobOf d 0]
/-- What run answers. -/
def RunP (d : Dc) (width : Int) (w : World) (e : Ending) (w' : World) : Prop :=
  Hid (Below w.heap.size w w') ∧ ((rtB 200 d = false ∧ e = .returned (.tuple #[.pointer none, .int .i64 140])) ∨
    (rtB 200 d = true ∧ (outM d width).long = true ∧ e = .returned (.tuple #[.pointer none, .int .i64 2])) ∨
    (rtB 200 d = true ∧ (outM d width).long = false ∧ ∃ wb, e = .returned (.tuple #[.pointer (some ⟨wb, 0, none⟩), .int .i64 0]) ∧ Hid (W51 w.heap.size wb (outM d width) w')))
/-- What holds between two rounds. -/
structure RunRel (B wb : Nat) (F : Wst) (w : World) (u : Nat) (v : Value) (xs : List Value) (wr : World) : Prop where
  ex : ∃ js st, u = cntJL js ∧ RunB st js ∧ W51 B wb st wr ∧ RJX (okS B v wr.heap.size) wr js xs ∧ runM (cntJL js) st js = F ∧ st.wid ≤ 9223372036854775807
  stk : Stk B wr v xs
  below : Below B w wr

theorem snoc_or {α : Type} (l : List α) : l = [] ∨ ∃ a b, l = a ++ [b] := by
  rcases List.eq_nil_or_concat l with h | ⟨a, b, h⟩
  · exact .inl h
  · exact .inr ⟨a, b, by rw [h, List.concat_eq_append]⟩
theorem RJX.unsnoc {ok : Nat → Prop} {w : World} {j : Jb} {v : Value} : ∀ {js : List Jb} {xs : List Value}, xs.length = js.length → RJX ok w (js ++ [j]) (xs ++ [v]) → RJX ok w js xs ∧ RJ ok w j v
  | [], [], _, h => by
    obtain ⟨v', ys, e, h1, _⟩ := h
    simp at e
    obtain ⟨rfl, _⟩ := e
    exact ⟨rfl, h1⟩
  | a :: js, x :: xs, hl, h => by
    obtain ⟨v', ys, e, h1, h2⟩ := h
    rw [List.cons_append] at e
    injection e with e1 e2
    subst e1 e2
    obtain ⟨h3, h4⟩ := RJX.unsnoc (by simpa using hl) h2
    exact ⟨⟨x, xs, rfl, h1, h3⟩, h4⟩
  | [], _ :: _, hl, _ => by simp at hl
  | _ :: _, [], hl, _ => by simp at hl
theorem Stk.pop {B g cap : Nat} {W : World} {ys : List Value} {v : Value} (h : Stk B W (.slice (some ⟨g, 0, none⟩) (ys ++ [v]).length cap) (ys ++ [v])) : Stk B W (.slice (some ⟨g, 0, none⟩) ys.length ys.length) ys := by
  obtain ⟨g', cap', cur, e, h1, h2, h3, h4, h5, h6, h7⟩ := h.ex
  cases e
  rw [List.length_append, List.length_singleton] at h3 h7
  refine ⟨g, ys.length, cur, rfl, h1, h2, Nat.le_refl _, by omega, h5, .inr rfl, ?_⟩
  have := congrArg (List.take ys.length) h7
  rw [List.take_take, Nat.min_eq_left (by omega), List.take_left] at this
  exact this

set_option maxHeartbeats 4000000 in
set_option maxRecDepth 100000 in
theorem run_any (d : Dc) (v : Value) (width : Int) (w : World) (hT : RD w d v) (hc : cnt d ≤ 10000) (hv : vol d ≤ 1000000) (hw : -9223372036854775808 ≤ width ∧ width ≤ 9223372036854775807) : Calls Try.prog 21 #[v, .int .i64 width] w (RunP d width w) := by
  obtain ⟨a2, c2, rfl, hkd, htx, hnn, hks⟩ := hT.open
  have hb0 := (Below.refl w.heap.size w).alloc (Nat.le_refl _) (.cells #[.int .i64 d.kind, .string d.text, .int .i64 d.num, .slice a2 d.kids.length c2] 24)
  have HB0 := hide hb0
  have HR := hide (Right_any d _ _ (RD.below hb0 hT) (by omega))
  have HT := hide hT
  have HC := hide hc
  have HV := hide hv
  have hbk := Blk.new w #[.int .i64 d.kind, .string d.text, .int .i64 d.num, .slice a2 d.kids.length c2] 24
  have HBK := hide hbk
  clear hT hc hv hks hb0 hbk
  cases hr : rtB 200 d with
  | false =>
    rw [hr] at HR
    go_enter Try.func21, Try.ntmps21
    go_wp2_with (go_at_call 14; refine HR.out.mono ?_; rintro e w1 ⟨rfl, h1⟩)
    go_ret2
    exact ⟨below_next HB0.out h1, .inl ⟨hr, rfl⟩⟩
  | true =>
    rw [hr] at HR
    have HA := hide (jobOf_all d 200 0 hr (Int.le_refl _) (by omega))
    go_enter Try.func21, Try.ntmps21
    go_upto_region 3 with (go_at_call 14; refine HR.out.mono ?_; rintro e w1 ⟨rfl, h1⟩)
    have HB1 := hide (below_next HB0.out h1)
    have hb1 := HBK.out.below h1
    have x0 := hb1.cell 0
    have x1 := hb1.cell 1
    have x2 := hb1.cell 2
    have x3 := hb1.cell 3
    have xl := hb1.lt
    have hba : Below w1.heap.size w1 (w1.alloc (.cells #[.pointer none, .slice none 0 0, .int .i64 0, .int .i64 (max width 0), .int .i64 0, .bool false] 51)) := (Below.refl _ _).alloc (Nat.le_refl _) _
    have HBA := hide hba
    have HJ := hide (jobOf_any d HA.out.1 (by have := HC.out; omega) 0 (Int.le_refl _) (by have := HA.out.2.1; omega) _ _ (RD.below (below_next HB1.out hba) HT.out))
    have HWB := hide (show W51 w.heap.size w1.heap.size { out := [], col := 0, wid := max width 0, brk := 0, long := false } (w1.alloc (.cells #[.pointer none, .slice none 0 0, .int .i64 0, .int .i64 (max width 0), .int .i64 0, .bool false] 51)) from
      ⟨HB1.out.size, .pointer none, .slice none 0 0, .inl rfl, Blk.new _ _ _, ⟨rfl, .inl ⟨rfl, rfl⟩⟩, fun _ _ => rfl⟩)
    clear h1 hb1 hba
    go_upto_region 4 with fail
    go_wp2_with (go_at_call 28; refine HJ.out.mono ?_; rintro e w2 ⟨vj, rfl, hj, hb2⟩; obtain ⟨T, u, rfl⟩ := hj.out.iface)
    have hb3 : Below w2.heap.size w2 (w2.alloc (.cells #[.iface T u] 64)) := (Below.refl _ _).alloc (Nat.le_refl _) _
    have HB3 := hide (below_next (below_next (below_next HB1.out HBA.out) hb2.out) hb3)
    have HST := hide (show RunRel w.heap.size w1.heap.size (outM d width) w (cntJL [jobOf d 0]) (.slice (some ⟨w2.heap.size, 0, none⟩) 1 1) [.iface T u] (w2.alloc (.cells #[.iface T u] 64)) from by
      have hA := HA.out
      have hs1 := HB1.out.size
      have hsA := HBA.out.size
      have hs2 := hb2.out.size
      refine ⟨⟨[jobOf d 0], _, rfl, ⟨fun _ => ⟨Nat.zero_le _, Nat.zero_le _⟩, ?_, ?_, ?_⟩, (HWB.out.others (by decide) hb2.out).others (by decide) hb3, ⟨_, [], rfl, ?_, rfl⟩, ?_, ?_⟩, ⟨⟨w2.heap.size, 1, #[.iface T u], rfl, by omega, Blk.new _ _ _, Nat.le_refl _, Nat.le_refl _, (by show 1 ≤ maxLen; unfold maxLen; omega), .inl rfl, rfl⟩⟩, HB3.out⟩
      · rw [flJL, flJL]; have := HV.out; omega
      · rw [cntJL, cntJL]; show 0 + _ ≤ _; have := HC.out; omega
      · rw [indDL, indDL, hA.2.2.2.2]; rfl
      · exact RJ.map hb3.size (fun k hk => ⟨Nat.le_trans hs1 (Nat.le_trans hsA hk.1), fun e => by cases e; exact Nat.lt_irrefl _ hk.2, Nat.lt_of_lt_of_le hk.2 hb3.size⟩) (fun b c hb e => (hb3.block b hb.2).trans e) hj.out
      · rw [cntJL, cntJL, Nat.add_zero]; rfl
      · show max width 0 ≤ _; omega)
    clear hj hb2 hb3 HJ HWB HT HBK x0 x1 x2 x3 xl
    go_wp2_with fail
    go_loopg [7] (cntJL [jobOf d 0]) (fun n v7 wr => ∃ xs g cap, v7 = .slice (some ⟨g, 0, none⟩) xs.length cap ∧ Hid (RunRel w.heap.size w1.heap.size (outM d width) w n (.slice (some ⟨g, 0, none⟩) xs.length cap) xs wr))
    case atStart => exact ⟨[.iface T u], _, _, rfl, HST.out⟩
    case round =>
      obtain ⟨xs, gS, capS, rfl, hrr⟩ := hrel
      obtain ⟨js, st, hn, hrb, hW, hX, hF, hwid⟩ := hrr.out.ex
      have c5 := hW.cell 3
      have l5 := hW.lt
      have hlen := hX.len
      have hll := len_cntJL js
      have hcj := hrb.cnt
      have HN := hide hn
      have HRB := hide hrb
      have HW := hide hW
      have HX := hide hX
      have HF := hide hF
      obtain ⟨_, _, e, hcapS, hgl, hcl⟩ := hrr.out.stk.cell
      cases e
      have HCL := hide hcl
      clear hrb hW hX hF hn hcl
      rcases snoc_or xs with rfl | ⟨ys, vj, rfl⟩
      · have hjs : js = [] := List.eq_nil_of_length_eq_zero (by simpa using hlen.symm)
        subst hjs
        have hst : st = outM d width := by rw [← HF.out, runM_nil]
        cases hlong : st.long with
        | true =>
          rw [hlong] at c5
          have HE := hide (show RunP d width w (.returned (.tuple #[.pointer none, .int .i64 2])) wr from ⟨hrr.out.below, .inr (.inl ⟨hr, by rw [← hst]; exact hlong, rfl⟩)⟩)
          go_wp2_with fail
          go_ret2
          exact HE.out
        | false =>
          rw [hlong] at c5
          have HE := hide (show RunP d width w (.returned (.tuple #[.pointer (some ⟨w1.heap.size, 0, none⟩), .int .i64 0])) wr from ⟨hrr.out.below, .inr (.inr ⟨hr, by rw [← hst]; exact hlong, w1.heap.size, rfl, by rw [← hst]; exact HW.out⟩)⟩)
          go_wp2_with fail
          go_ret2
          exact HE.out
      · have hxl : ((ys ++ [vj]).length : Int) = (ys.length : Int) + 1 := by simp
        have hpos : (0 : Int) < (ys.length : Int) + 1 := by omega
        cases hlong : st.long with
        | true =>
          rw [hlong] at c5
          have hst : st = outM d width := by rw [← HF.out, runM_long _ _ _ hlong]
          have HE := hide (show RunP d width w (.returned (.tuple #[.pointer none, .int .i64 2])) wr from ⟨hrr.out.below, .inr (.inl ⟨hr, by rw [← hst]; exact hlong, rfl⟩)⟩)
          go_wp2_with fail
          go_ret2
          exact HE.out
        | false =>
          rw [hlong] at c5
          rcases snoc_or js with rfl | ⟨rest, j, rfl⟩
          · simp at hlen
          have hrl : ys.length = rest.length := by simpa using hlen
          have hyl : ys.length ≤ 1000000 := by rw [List.length_append] at hll; simp at hll; omega
          have hyi : (ys.length : Int) ≤ 1000000 := by omega
          obtain ⟨hXr, hXj⟩ := RJX.unsnoc hrl HX.out
          obtain ⟨T2, u2, rfl⟩ := hXj.iface
          have hsp := Stk.pop hrr.out.stk
          have e0 := HCL.out ys.length (by simp)
          rw [List.getElem_concat_length rfl] at e0
          have hrb := HRB.out
          have hfl := hrb.fl
          have hcn := hrb.cnt
          have hin := hrb.ind
          rw [flJL_append, flJL, flJL] at hfl
          rw [cntJL_append, cntJL, cntJL] at hcn
          rw [indDL_append, Bool.and_eq_true, indDL, indDL, Bool.and_true] at hin
          obtain ⟨ho1, ho2⟩ := hrb.out hlong
          obtain ⟨T3, K, u3, e3, hm, hcf, hna, hcal⟩ := write_any w.heap.size w1.heap.size j st rest _ (.slice (some ⟨gS, 0, none⟩) ys.length ys.length) ys wr.drew hrr.out.below.size ⟨HW.out.ge, HW.out.ex'⟩ ⟨hsp.ex⟩ (RJX.map (w := wr) (w' := wr.drew) (Nat.le_refl _) (fun k h => ⟨h.1, h.2.1, h.2.2⟩) (fun _ _ _ e => e) hXr) (RJ.map (w := wr) (w' := wr.drew) (Nat.le_refl _) (fun k h => ⟨h.1, h.2.1, h.2.2⟩) (fun _ _ _ e => e) hXj) ho1 (by omega) (by omega) (by omega) hwid (by omega) (indJ_of j hin.2)
          cases e3
          have hstep := hrb.step hlong
          have HCAL := hide (show Calls Try.prog K #[u2, .pointer (some ⟨w1.heap.size, 0, none⟩), .slice (some ⟨gS, 0, none⟩) ys.length ys.length] wr.drew fun e w' => ∃ xs g cap, e = .returned (.slice (some ⟨g, 0, none⟩) xs.length cap) ∧ Hid (∃ n, n + 1 = cntJL (rest ++ [j]) ∧ RunRel w.heap.size w1.heap.size (outM d width) w n (.slice (some ⟨g, 0, none⟩) xs.length cap) xs w') from by
            refine hcal.mono ?_
            rintro e w3 ⟨v3, xs3, rfl, h3⟩
            obtain ⟨h4, h5, h6, h7⟩ := h3.out
            obtain ⟨g3, cap3, rfl, _, _, _⟩ := h4.cell
            refine ⟨xs3, g3, cap3, rfl, cntJL (writeM j st rest).2, hstep.2.2, ⟨⟨_, _, rfl, hstep.1, h6, h5, ?_, ?_⟩, h4, (Below.drew hrr.out.below).trans h7⟩⟩
            · rw [← HF.out, ← hstep.2.2, runM_step _ _ _ _ hlong]
            · rw [hstep.2.1]; exact hwid)
          clear hXr hXj hsp hrb hfl hcn hin ho1 ho2 hcal hstep hrl hlen hll hcj
          have hcS : ys.length + 1 ≤ capS := by simpa using hcapS
          have hcS2 : (ys.length : Int) ≤ (capS : Int) := by omega
          go_upto_region 8 with fail
          go_region_with (first | (refine HCAL.out.mono ?_; rintro e w3 ⟨xs3, g3, cap3, rfl, h3⟩; have H3 := hide h3; clear h3))
          all_goals obtain ⟨m3, hm3, hr3⟩ := H3.out.out
          all_goals have HM3 := hide hm3
          all_goals have HR3 := hide hr3
          all_goals clear hm3 hr3 H3
          all_goals go_wp2_with fail
          all_goals (go_roundg m3; (case measure => have h1 := HN.out; have h2 := HM3.out; omega); (case rel => exact ⟨_, _, _, rfl, HR3.out⟩))
end Go.Proofs.Ytcmhlfnmjpmjhaa
