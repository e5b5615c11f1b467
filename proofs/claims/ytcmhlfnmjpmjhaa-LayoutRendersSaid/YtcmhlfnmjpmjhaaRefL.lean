/- The walks of the reference's leaf and fits. -/
import Derived.Test.YtcmhlfnmjpmjhaaRefD
set_option linter.unusedVariables false
set_option linter.unusedSimpArgs false
set_option linter.unnecessarySimpa false
set_option linter.deprecated false
namespace Go.Proofs.Ytcmhlfnmjpmjhaa
open Go.RowKit

/-- What a leaf writes. -/
def lfM (x : Dc) (ind : Nat) (fl : Bool) (st : Wst) : Wst := if x.kind = 1 ∨ (x.kind = 2 ∧ fl = true) then putM x.text.data.toList st else wrapM ind st
/-- Both are too long, or both are the same. -/
def RelW (a c : Wst) : Prop := (a.long = true ∧ c.long = true) ∨ (a.long = false ∧ c = a)
theorem rel_put (s : List UInt8) (st : Wst) (h : st.long = false) : RelW (putM s st) (putR s st) := by
  unfold RelW putM putR
  split
  · exact Or.inr ⟨h, rfl⟩
  · exact Or.inl ⟨rfl, rfl⟩
/-- What leaf answers. -/
def LeafP (B b : Nat) (vl : Value) (n : Nat) (M : Wst) (w : World) (e : Ending) (w' : World) : Prop := e = .returned (.tuple #[]) ∧ Hid (∃ st', WR B b vl n st' w' ∧ RelW M st' ∧ Below B w w' ∧ Lib.OthersKept 5 (some b) w w')

/-- What holds between two blanks. -/
structure BlRel (B b : Nat) (vl : Value) (n ind : Nat) (st : Wst) (w : World) (i : Nat) (wr : World) : Prop where
  below : Below B w wr
  kept : Lib.OthersKept 5 (some b) w wr
  wr : ∃ st', WR B b vl n st' wr ∧ ((st'.long = true ∧ 65536 < st.out.length + 1 + ind) ∨ (st' = { st with out := st.out ++ 10 :: List.replicate i 32, col := st.col + 1 + i } ∧ i ≤ ind ∧ st.out.length + 1 + i ≤ 65536))
theorem BlRel.fin {B b : Nat} {vl : Value} {n ind : Nat} {st : Wst} {w : World} {i : Nat} {wr : World} (h : BlRel B b vl n ind st w i wr) (hl : st.long = false) (hi : (∀ st', WR B b vl n st' wr → st'.long = true) ∨ i = ind) (hB : B ≤ b) : ∃ st', WR B b vl n st' (wr.setCell ⟨b, 3, none⟩ (.int .i64 (ind : Int))) ∧ RelW (wrapM ind st) st' ∧ Below B w (wr.setCell ⟨b, 3, none⟩ (.int .i64 (ind : Int))) ∧ Lib.OthersKept 5 (some b) w (wr.setCell ⟨b, 3, none⟩ (.int .i64 (ind : Int))) := by
  obtain ⟨h1, h2, st', h3, h4⟩ := h
  refine ⟨_, h3.setCol ind, ?_, h1.setCell (p := ⟨b, 3, none⟩) hB _, h2.setCell ⟨b, 3, none⟩ rfl _⟩
  rcases h4 with ⟨hl', hg⟩ | ⟨rfl, hle, hs⟩
  · refine Or.inl ⟨?_, hl'⟩
    unfold wrapM
    rw [if_neg (by omega)]
  · rcases hi with hi | rfl
    · have := hi _ h3
      simp only [hl] at this
      cases this
    · refine Or.inr ?_
      unfold wrapM
      rw [if_pos (by omega)]
      exact ⟨hl, rfl⟩

theorem WR.keep {B b n : Nat} {vl : Value} {st : Wst} {w : World} (h : WR B b vl n st w) (o : Obj) : WR B b vl n st (w.alloc o) := h.below ((Below.refl _ _).alloc (Nat.le_refl _) _)
theorem putR_col (s : List UInt8) (st : Wst) : (putR s st).col ≤ st.col + s.length := by unfold putR; split <;> simp

set_option maxHeartbeats 4000000 in
set_option maxRecDepth 100000 in
theorem leaf_any (B b n : Nat) (l : List Dc) (aL : Option Addr) (cL BL : Nat) (st : Wst) (ind : Nat) (fl : Bool) (w : World) (h : WR B b (.slice aL l.length cL) n st w) (hrow : w.ownsRow BL 24 4 (.slice aL l.length cL) l.length (lfC l)) (hn : n < l.length) (hnl : l.length ≤ 1000000)
    (hl : st.long = false) (ho : st.out.length ≤ 65536) (hc : st.col ≤ 65536) (hs : l[n].text.size ≤ 1000000) (hind : ind ≤ 1000000) (hBw : B ≤ w.heap.size) :
    Calls Try.prog 31 #[.pointer (some ⟨b, 0, none⟩), .int .i64 (ind : Int), .bool fl] w (LeafP B b (.slice aL l.length cL) (n + 1) (lfM l[n] ind fl st) w) := by
  have hB := h.ge
  obtain ⟨aL', cL', e9, hat⟩ := own_shape hrow
  obtain ⟨rfl, rfl⟩ : aL = aL' ∧ cL = cL' := by injection e9 with e1 _ e2; exact ⟨e1, e2⟩
  obtain ⟨g, rfl, hBg, hgl, hcell⟩ := hat (by omega)
  obtain ⟨y0, y1, y2, y3⟩ := lfC_get l n hn
  have z0 := hcell _ _ y0
  have z1 := hcell _ _ y1
  have z2 := hcell _ _ y2
  have z3 := hcell _ _ y3
  obtain ⟨c0, c1, _, _, _, _, bl, bf⟩ := h.cells
  have bf1 := bf 1
  have hni : (n : Int) < (l.length : Int) := by omega
  have HX := hide (show LeafP B b (.slice (some ⟨g, 0, none⟩) l.length cL) (n + 1) (lfM l[n] ind fl st) w = LeafP B b (.slice (some ⟨g, 0, none⟩) l.length cL) (n + 1) (lfM l[n] ind fl st) w from rfl)
  obtain ⟨kk, hkk⟩ : ∃ x, l[n].kind = x := ⟨_, rfl⟩
  obtain ⟨tx, htx⟩ : ∃ x, l[n].text = x := ⟨_, rfl⟩
  obtain ⟨nm, hnm⟩ : ∃ x, l[n].num = x := ⟨_, rfl⟩
  have HK := hide hkk
  have HTX := hide htx
  rw [hkk] at z0
  rw [htx] at z1 hs
  rw [hnm] at z2
  have H0 := hide h
  clear y0 y1 y2 y3 hcell hat e9 hrow bf hkk htx hnm HX h
  go_enter Try.func31, Try.ntmps31
  go_upto_region 0 with fail
  go_region
  go_upto_region 2 with fail
  have hwr : WR B b (.slice (some ⟨g, 0, none⟩) l.length cL) (n + 1) st ((w.setCell ⟨b, 1, none⟩ (.int .i64 ((n : Int) + 1))).alloc (.cells #[.int .i64 kk, .string tx, .int .i64 nm, .slice none 0 0] 24)).drew := ((H0.out.setN (n + 1)).keep _).below (Below.drew (Below.refl _ _))
  have hbw : Below B w ((w.setCell ⟨b, 1, none⟩ (.int .i64 ((n : Int) + 1))).alloc (.cells #[.int .i64 kk, .string tx, .int .i64 nm, .slice none 0 0] 24)).drew := Below.drew (((Below.refl B w).setCell (p := ⟨b, 1, none⟩) hB _).alloc (by rw [size_setCell]; exact hBw) _)
  have hok : Lib.OthersKept 5 (some b) w ((w.setCell ⟨b, 1, none⟩ (.int .i64 ((n : Int) + 1))).alloc (.cells #[.int .i64 kk, .string tx, .int .i64 nm, .slice none 0 0] 24)).drew := Lib.OthersKept.drew (((Lib.OthersKept.refl 5 (some b) w).setCell ⟨b, 1, none⟩ rfl _).alloc _)
  have hbx : Blk ((w.setCell ⟨b, 1, none⟩ (.int .i64 ((n : Int) + 1))).alloc (.cells #[.int .i64 kk, .string tx, .int .i64 nm, .slice none 0 0] 24)).drew w.heap.size #[.int .i64 kk, .string tx, .int .i64 nm, .slice none 0 0] 24 := by
    have := Blk.new (w.setCell ⟨b, 1, none⟩ (.int .i64 ((n : Int) + 1))) #[.int .i64 kk, .string tx, .int .i64 nm, .slice none 0 0] 24
    rw [size_setCell] at this
    exact this
  generalize hWW : ((w.setCell ⟨b, 1, none⟩ (.int .i64 ((n : Int) + 1))).alloc (.cells #[.int .i64 kk, .string tx, .int .i64 nm, .slice none 0 0] 24)).drew = w2 at hwr hbw hok hbx ⊢
  clear hWW z0 z1 z2 z3 c0 c1 bl bf1 H0
  have HWR := hide hwr
  have HBW := hide hbw
  have HOK := hide hok
  have hBw2 : B ≤ w2.heap.size := by have := hbw.size; omega
  have x0 := hbx.cell 0
  have x1 := hbx.cell 1
  have xl := hbx.lt
  clear hwr hbw hok hbx
  by_cases hput : kk = 1 ∨ (kk = 2 ∧ fl = true)
  · have HM := hide (show lfM l[n] ind fl st = putM tx.data.toList st by unfold lfM; rw [HK.out, HTX.out, if_pos hput])
    have HP := hide (putR_any B b (n + 1) _ tx st w2 HWR.out ho (by omega) hs hBw2)
    have HRL := hide (rel_put tx.data.toList st hl)
    rcases hput with rfl | ⟨rfl, rfl⟩
    · go_wp2_with fail
      refine HP.out.mono ?_
      rintro e w3 ⟨rfl, h1⟩
      have HE := hide (show LeafP B b (.slice (some ⟨g, 0, none⟩) l.length cL) (n + 1) (lfM l[n] ind fl st) w (.returned (.tuple #[])) w3 from ⟨rfl, _, h1.out.1, by rw [HM.out]; exact HRL.out, HBW.out.trans h1.out.2.1, HOK.out.trans h1.out.2.2⟩)
      clear h1
      go_wp2_with fail
      go_end0
      exact HE.out
    · go_wp2_with fail
      refine HP.out.mono ?_
      rintro e w3 ⟨rfl, h1⟩
      have HE := hide (show LeafP B b (.slice (some ⟨g, 0, none⟩) l.length cL) (n + 1) (lfM l[n] ind true st) w (.returned (.tuple #[])) w3 from ⟨rfl, _, h1.out.1, by rw [HM.out]; exact HRL.out, HBW.out.trans h1.out.2.1, HOK.out.trans h1.out.2.2⟩)
      clear h1
      go_wp2_with fail
      go_end0
      exact HE.out
  · have HM := hide (show lfM l[n] ind fl st = wrapM ind st by unfold lfM; rw [HK.out, if_neg hput])
    have hk1 : kk ≠ 1 := fun h => hput (Or.inl h)
    have m1 : (kk == 1) = false := by rw [beq_eq_false_iff_ne]; exact hk1
    have HP := hide (putR_any B b (n + 1) _ ⟨#[10]⟩ st w2 HWR.out ho (by omega) (by decide) hBw2)
    have HB0 := hide (show ∀ w3, WRP B b (.slice (some ⟨g, 0, none⟩) l.length cL) (n + 1) (putR [10] st) w2 (.returned (.tuple #[])) w3 → BlRel B b (.slice (some ⟨g, 0, none⟩) l.length cL) (n + 1) ind st w 0 w3 from fun w3 h => by
      obtain ⟨_, h1⟩ := h
      refine ⟨HBW.out.trans h1.out.2.1, HOK.out.trans h1.out.2.2, _, h1.out.1, ?_⟩
      unfold putR
      split
      · rename_i h5
        simp only [List.length_cons, List.length_nil] at h5
        exact Or.inr ⟨rfl, Nat.zero_le _, by omega⟩
      · rename_i h5
        simp only [List.length_cons, List.length_nil] at h5
        exact Or.inl ⟨rfl, by omega⟩)
    have hgo : (kk == 2 && fl) = false := by
      cases fl
      · simp
      · have : kk ≠ 2 := fun h => hput (Or.inr ⟨h, rfl⟩)
        simp [this]
    have hk2 : kk = 2 ∧ fl = false ∨ kk ≠ 2 := by
      by_cases h2 : kk = 2
      · left; refine ⟨h2, ?_⟩
        cases fl
        · rfl
        · exact absurd (Or.inr ⟨h2, rfl⟩) hput
      · exact Or.inr h2
    clear hput hgo
    rcases hk2 with ⟨rfl, rfl⟩ | hk2
    · go_wp2_with fail
      refine HP.out.mono ?_
      rintro e w3 ⟨rfl, h1⟩
      have HB1 := hide (HB0.out w3 ⟨rfl, h1⟩)
      clear h1 x0 x1 xl HP HB0
      go_wp2_with fail
      go_loopg [7] ind (fun u v7 wr => ∃ i : Nat, Hid (u = ind - i) ∧ v7 = .int .i64 (i : Int) ∧ i ≤ ind ∧ Hid (BlRel B b (.slice (some ⟨g, 0, none⟩) l.length cL) (n + 1) ind st w i wr))
      case atStart => exact ⟨0, rfl, rfl, Nat.zero_le _, HB1⟩
      case round =>
        obtain ⟨i, hu, rfl, hile, hr⟩ := hrel
        obtain ⟨st', hwr, hst⟩ := hr.out.wr
        obtain ⟨_, _, c3, _, _, c6, bl, bf⟩ := hwr.cells
        have bf3 := bf 3
        have HR := hide hr.out
        have HW := hide hwr
        have hBr : B ≤ wr.heap.size := by have := hr.out.below.size; omega
        clear bf hr
        by_cases hi : i < ind
        · have hii : (i : Int) < (ind : Int) := by omega
          rcases hst with ⟨hlg, hgt⟩ | ⟨rfl, hle, hsz⟩
          · have HE := hide (HR.out.fin hl (Or.inl fun st2 h2 => by
              have q := h2.cells.2.2.2.2.2.1
              rw [c6, hlg] at q
              injection q with q
              injection q with q
              exact q.symm) hB)
            rw [hlg] at c6
            go_wp2_with fail
            go_end0
            exact ⟨rfl, by rw [HM.out]; exact HE.out⟩
          · have HP := hide (putR_any B b (n + 1) _ ⟨#[32]⟩ _ wr HW.out (by simp only [List.length_append, List.length_cons, List.length_replicate]; omega) (by show st.col + 1 + i ≤ 1000000; omega) (by decide) hBr)
            have HN := hide (show ∀ w4, WRP B b (.slice (some ⟨g, 0, none⟩) l.length cL) (n + 1) (putR [32] { st with out := st.out ++ 10 :: List.replicate i 32, col := st.col + 1 + i }) wr (.returned (.tuple #[])) w4 → BlRel B b (.slice (some ⟨g, 0, none⟩) l.length cL) (n + 1) ind st w (i + 1) w4 from fun w4 h => by
              obtain ⟨_, h1⟩ := h
              refine ⟨HR.out.below.trans h1.out.2.1, HR.out.kept.trans h1.out.2.2, _, h1.out.1, ?_⟩
              unfold putR
              split
              · rename_i h5
                simp only [List.length_append, List.length_cons, List.length_nil, List.length_replicate] at h5
                refine Or.inr ⟨?_, hi, by omega⟩
                simp only [List.length_cons, List.length_nil, List.replicate_succ', List.append_assoc, List.cons_append, Wst.mk.injEq]
                exact ⟨trivial, by omega, trivial, trivial, trivial⟩
              · rename_i h5
                simp only [List.length_append, List.length_cons, List.length_nil, List.length_replicate] at h5
                exact Or.inl ⟨rfl, by omega⟩)
            have c6' : wr.cell? ⟨b, 6, none⟩ = some (.bool false) := by rw [c6]; simp only [hl]
            clear c6
            go_wp2_with fail
            refine HP.out.mono ?_
            rintro e w4 ⟨rfl, h1⟩
            have HN2 := hide (HN.out w4 ⟨rfl, h1⟩)
            clear h1
            go_wp2_with fail
            go_roundg (ind - (i + 1))
            case measure => rw [hu.out]; omega
            case rel => exact ⟨i + 1, rfl, rfl, hi, HN2⟩
        · obtain rfl : i = ind := by omega
          have HE := hide (HR.out.fin hl (Or.inr rfl) hB)
          clear HR HW
          go_wp2_with fail
          go_end0
          exact ⟨rfl, by rw [HM.out]; exact HE.out⟩
    · have m2 : (kk == 2) = false := by rw [beq_eq_false_iff_ne]; exact hk2
      go_wp2_with fail
      refine HP.out.mono ?_
      rintro e w3 ⟨rfl, h1⟩
      have HB1 := hide (HB0.out w3 ⟨rfl, h1⟩)
      clear h1 x0 x1 xl HP HB0
      go_wp2_with fail
      go_loopg [7] ind (fun u v7 wr => ∃ i : Nat, Hid (u = ind - i) ∧ v7 = .int .i64 (i : Int) ∧ i ≤ ind ∧ Hid (BlRel B b (.slice (some ⟨g, 0, none⟩) l.length cL) (n + 1) ind st w i wr))
      case atStart => exact ⟨0, rfl, rfl, Nat.zero_le _, HB1⟩
      case round =>
        obtain ⟨i, hu, rfl, hile, hr⟩ := hrel
        obtain ⟨st', hwr, hst⟩ := hr.out.wr
        obtain ⟨_, _, c3, _, _, c6, bl, bf⟩ := hwr.cells
        have bf3 := bf 3
        have HR := hide hr.out
        have HW := hide hwr
        have hBr : B ≤ wr.heap.size := by have := hr.out.below.size; omega
        clear bf hr
        by_cases hi : i < ind
        · have hii : (i : Int) < (ind : Int) := by omega
          rcases hst with ⟨hlg, hgt⟩ | ⟨rfl, hle, hsz⟩
          · have HE := hide (HR.out.fin hl (Or.inl fun st2 h2 => by
              have q := h2.cells.2.2.2.2.2.1
              rw [c6, hlg] at q
              injection q with q
              injection q with q
              exact q.symm) hB)
            rw [hlg] at c6
            go_wp2_with fail
            go_end0
            exact ⟨rfl, by rw [HM.out]; exact HE.out⟩
          · have HP := hide (putR_any B b (n + 1) _ ⟨#[32]⟩ _ wr HW.out (by simp only [List.length_append, List.length_cons, List.length_replicate]; omega) (by show st.col + 1 + i ≤ 1000000; omega) (by decide) hBr)
            have HN := hide (show ∀ w4, WRP B b (.slice (some ⟨g, 0, none⟩) l.length cL) (n + 1) (putR [32] { st with out := st.out ++ 10 :: List.replicate i 32, col := st.col + 1 + i }) wr (.returned (.tuple #[])) w4 → BlRel B b (.slice (some ⟨g, 0, none⟩) l.length cL) (n + 1) ind st w (i + 1) w4 from fun w4 h => by
              obtain ⟨_, h1⟩ := h
              refine ⟨HR.out.below.trans h1.out.2.1, HR.out.kept.trans h1.out.2.2, _, h1.out.1, ?_⟩
              unfold putR
              split
              · rename_i h5
                simp only [List.length_append, List.length_cons, List.length_nil, List.length_replicate] at h5
                refine Or.inr ⟨?_, hi, by omega⟩
                simp only [List.length_cons, List.length_nil, List.replicate_succ', List.append_assoc, List.cons_append, Wst.mk.injEq]
                exact ⟨trivial, by omega, trivial, trivial, trivial⟩
              · rename_i h5
                simp only [List.length_append, List.length_cons, List.length_nil, List.length_replicate] at h5
                exact Or.inl ⟨rfl, by omega⟩)
            have c6' : wr.cell? ⟨b, 6, none⟩ = some (.bool false) := by rw [c6]; simp only [hl]
            clear c6
            go_wp2_with fail
            refine HP.out.mono ?_
            rintro e w4 ⟨rfl, h1⟩
            have HN2 := hide (HN.out w4 ⟨rfl, h1⟩)
            clear h1
            go_wp2_with fail
            go_roundg (ind - (i + 1))
            case measure => rw [hu.out]; omega
            case rel => exact ⟨i + 1, rfl, rfl, hi, HN2⟩
        · obtain rfl : i = ind := by omega
          have HE := hide (HR.out.fin hl (Or.inr rfl) hB)
          clear HR HW
          go_wp2_with fail
          go_end0
          exact ⟨rfl, by rw [HM.out]; exact HE.out⟩
end Go.Proofs.Ytcmhlfnmjpmjhaa
