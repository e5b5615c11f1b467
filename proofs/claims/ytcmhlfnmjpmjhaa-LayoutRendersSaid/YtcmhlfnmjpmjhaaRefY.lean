/- The walk of the reference's Lay. -/
import Derived.Test.YtcmhlfnmjpmjhaaRefP
set_option linter.unusedVariables false
set_option linter.unusedSimpArgs false
set_option linter.unnecessarySimpa false
set_option linter.deprecated false
namespace Go.Proofs.Ytcmhlfnmjpmjhaa
open Go.RowKit

theorem leafsL_two (ks : List Dc) (k : Nat) (h : k < ks.length) : leafsL ks = leafsL (ks.take k) ++ (leafs ks[k] ++ leafsL (ks.drop (k + 1))) := by
  conv => lhs; rw [← List.take_append_drop k ks, leafsL_append, List.drop_eq_getElem_cons h, leafsL]
theorem next_drop {ks l r : List Dc} {n n' k : Nat} (h : l.drop n = leafsL ks ++ r) (hn : n' = n + (leafsL (ks.take k)).length) (hk : k < ks.length) : l.drop n' = leafs ks[k] ++ (leafsL (ks.drop (k + 1)) ++ r) := by
  rw [hn, ← List.drop_drop, h, leafsL_two ks k hk, List.append_assoc, List.drop_left' rfl, List.append_assoc]
theorem lfM_1 (tx : ByteArray) (nn : Int) (ks : List Dc) (ind : Nat) (fl : Bool) (t : Nat) (st : Wst) (h : st.long = false) : lfM (.mk 1 tx nn []) ind fl st = layJ (jobOf (.mk 1 tx nn ks) ind) fl t st := by
  rw [jobOf, if_pos rfl, layJ_text h]
  unfold lfM
  exact if_pos (Or.inl rfl)
theorem lfM_2 (tx : ByteArray) (nn : Int) (ks : List Dc) (ind : Nat) (fl : Bool) (t : Nat) (st : Wst) (h : st.long = false) : lfM (.mk 2 tx nn []) ind fl st = layJ (jobOf (.mk 2 tx nn ks) ind) fl t st := by
  rw [jobOf, if_neg (by decide), if_pos rfl, layJ_line h]
  unfold lfM
  cases fl
  · rw [if_neg (by simp [Dc.kind]), if_neg (by simp)]; rfl
  · rw [if_pos (Or.inr ⟨rfl, rfl⟩), if_pos (by simp)]; rfl
theorem lfM_3 (tx : ByteArray) (nn : Int) (ks : List Dc) (ind : Nat) (fl : Bool) (t : Nat) (st : Wst) (h : st.long = false) : lfM (.mk 3 tx nn []) ind fl st = layJ (jobOf (.mk 3 tx nn ks) ind) fl t st := by
  rw [jobOf, if_neg (by decide), if_neg (by decide), if_pos rfl, layJ_hard h]
  unfold lfM
  rw [if_neg (by simp [Dc.kind])]; rfl
theorem Blk.other {w : World} {k b i : Nat} {c : Array Value} {t : TypeId} {x : Value} (h : Blk w k c t) (hne : k ≠ b) : Blk (w.setCell ⟨b, i, none⟩ x) k c t := by
  unfold Blk at h ⊢
  rw [Below.heap_setCell _ _ _ _ hne]
  exact h
theorem kept_below {w w' : World} {b : Nat} (h : Below w.heap.size w w') : Lib.OthersKept 5 (some b) w w' := fun k o hk _ _ => (h.block k (Array.getElem?_eq_some_iff.1 hk).1).trans hk
/-- What is shown of a document: Lay lays it out. -/
def LayOk (d : Dc) : Prop := ∀ (lev : Nat), rtB lev d = true → cnt d ≤ 10000 → ∀ (B b BL n : Nat) (l : List Dc) (aL : Option Addr) (cL : Nat) (r : List Dc) (st : Wst) (ind : Int) (fl : Bool) (v : Value) (w : World), RDo (fun k => k < B) w d v → WR B b (.slice aL l.length cL) n st w → w.ownsRow BL 24 4 (.slice aL l.length cL) l.length (lfC l) →
  n ≤ l.length → l.drop n = leafs d ++ r → l.length ≤ 1000000 → szL l ≤ 1000000 → st.long = false → st.col ≤ st.out.length → st.out.length ≤ 65536 → st.brk + cnt d ≤ 1000000 → 0 ≤ ind → ind + 1000 * (lev : Int) ≤ 1000000 → B ≤ w.heap.size →
  Calls Try.prog 25 #[.pointer (some ⟨b, 0, none⟩), v, .int .i64 ind, .bool fl] w (LayP B b (.slice aL l.length cL) n (leafs d).length (layJ (jobOf d ind) fl (tlL r) st) w)

set_option maxHeartbeats 16000000 in
set_option maxRecDepth 100000 in
theorem Lay_any : ∀ d, LayOk d := by
  refine Dc.induct fun kd tx nn ks ih => ?_
  intro lev0 hrt0 hc B b BL n l aL cL r st ind fl v w hT hW hrow hnle hdr hnl hsz hl hcol ho hbrk hind hlev hBw
  obtain ⟨a2, c2, rfl, hkd, htx, hnn, hks⟩ := hT.open
  simp only [Dc.kind, Dc.text, Dc.num, Dc.kids] at hks htx hkd hnn hT ⊢
  cases lev0 with
  | zero => rw [rtB] at hrt0; cases hrt0
  | succ lev =>
  rw [rtB, Bool.and_eq_true] at hrt0
  obtain ⟨hok, hrt⟩ := hrt0
  rw [cnt] at hc hbrk
  have hlen := hks.1
  have HK := hide hks
  have HI := hide ih
  have HRT := hide hrt
  have HC := hide hc
  have HNL := hide hnl
  have HSZ := hide hsz
  have HBW := hide hBw
  have hB := hW.ge
  have hbh : b < w.heap.size := hW.cells.2.2.2.2.2.2.1
  have hba : Below w.heap.size w (w.alloc (.cells #[.int .i64 kd, .string tx, .int .i64 nn, .slice a2 ks.length c2] 24)) := (Below.refl _ w).alloc (Nat.le_refl _) _
  have hbx := Blk.new w #[.int .i64 kd, .string tx, .int .i64 nn, .slice a2 ks.length c2] 24
  have hW1 := hW.below hba
  have hrow1 := own_below hrow hba
  have hbB : Below B w (w.alloc (.cells #[.int .i64 kd, .string tx, .int .i64 nn, .slice a2 ks.length c2] 24)) := hba.mono hBw
  have hkB : Lib.OthersKept 5 (some b) w (w.alloc (.cells #[.int .i64 kd, .string tx, .int .i64 nn, .slice a2 ks.length c2] 24)) := (Lib.OthersKept.refl 5 (some b) w).alloc _
  by_cases hlf : kd = 1 ∨ kd = 2 ∨ kd = 3
  · have hlfs : leafs (.mk kd tx nn ks) = [.mk kd tx nn []] := by rw [leafs, if_pos hlf]
    rw [hlfs] at hdr
    have hnlt : n < l.length := by
      have := congrArg List.length hdr
      simp only [List.length_drop, List.length_append, List.length_cons, List.length_nil] at this
      omega
    have hln : l[n] = .mk kd tx nn [] := by
      have h1 : (l.drop n)[0]? = some (.mk kd tx nn []) := by rw [hdr]; rfl
      rw [List.getElem?_drop, Nat.add_zero, List.getElem?_eq_getElem hnlt] at h1
      exact Option.some.inj h1
    have htsz : tx.size ≤ 1000000 := by
      have h1 := szL_part l n
      rw [hdr] at h1
      have h2 : szL ([.mk kd tx nn []] ++ r) = tx.size + szL r := by rw [List.singleton_append, szL]; rfl
      omega
    obtain ⟨ni, hni⟩ := Int.eq_ofNat_of_zero_le hind
    have HL := hide (leaf_any B b n l aL cL BL st ni fl _ hW1 hrow1 hnlt hnl hl ho (by omega) (by rw [hln]; exact htsz) (by omega) (Nat.le_trans hBw hba.size))
    have hM : lfM l[n] ni fl st = layJ (jobOf (.mk kd tx nn ks) ind) fl (tlL r) st := by
      rw [hln, hni]
      rcases hlf with rfl | rfl | rfl
      · exact lfM_1 tx nn ks ni fl _ st hl
      · exact lfM_2 tx nn ks ni fl _ st hl
      · exact lfM_3 tx nn ks ni fl _ st hl
    have HE := hide (show ∀ e w2, LeafP B b (.slice aL l.length cL) (n + 1) (lfM l[n] ni fl st) (w.alloc (.cells #[.int .i64 kd, .string tx, .int .i64 nn, .slice a2 ks.length c2] 24)) e w2 → LayP B b (.slice aL l.length cL) n (leafs (.mk kd tx nn ks)).length (layJ (jobOf (.mk kd tx nn ks) ind) fl (tlL r) st) w e w2 from fun e w2 h => by
      rw [hM] at h
      obtain ⟨h1, h2⟩ := h.lay
      obtain ⟨st', n', q1, q2, q3, q4⟩ := h2.out
      rw [hlfs]
      exact ⟨h1, st', n', q1, q2, hbB.trans q3, hkB.trans q4⟩)
    subst hni
    clear hks ih hT hW hrow hdr hM hlfs hln hW1 hrow1 hba hbx hbB hkB hok hrt
    go_enter Try.func25, Try.ntmps25
    rcases hlf with rfl | rfl | rfl
    all_goals
      go_wp2_with fail
      refine HL.out.mono ?_
      rintro e w2 hp
      have HF := hide (HE.out e w2 hp)
      obtain rfl := hp.1
      clear hp
      go_wp2_with fail
      go_end0
      exact HF.out
  · have hlfs : leafs (.mk kd tx nn ks) = leafsL ks := by rw [leafs, if_neg hlf]
    rw [hlfs] at hdr
    have h4k : kd = 4 ∨ kd = 5 ∨ kd = 6 := by
      unfold okK at hok
      by_cases h4 : kd = 4
      · exact Or.inl h4
      · rw [if_neg (by omega), if_neg (by omega), if_neg h4] at hok
        split at hok
        · exact Or.inr (by assumption)
        · cases hok
    have hnn4 : kd = 4 → 0 ≤ nn ∧ nn ≤ 1000 := fun e => by
      subst e
      unfold okK at hok
      simp at hok
      exact ⟨hok.1.2, hok.2⟩
    push_cast at hlev
    have hjo : jobOf (.mk kd tx nn ks) ind = .many (jobsOf ks (if kd = 4 then ind + nn else ind)) (kd == 5) := by
      rw [jobOf, if_neg (by omega), if_neg (by omega), if_neg (by omega)]
    have HDR := hide hdr
    have HLE := hide (show n + (leafsL ks).length ≤ l.length by
      have := congrArg List.length hdr
      rw [List.length_drop, List.length_append] at this
      omega)
    have HPOST0 := hide (show ∀ M, M = layJ (jobOf (.mk kd tx nn ks) ind) fl (tlL r) st → ∀ e w2, LayP B b (.slice aL l.length cL) n (leafsL ks).length M w e w2 → LayP B b (.slice aL l.length cL) n (leafs (.mk kd tx nn ks)).length (layJ (jobOf (.mk kd tx nn ks) ind) fl (tlL r) st) w e w2 from fun M hM e w2 h => by rw [hlfs, ← hM]; exact h)
    have HJO := hide hjo
    have HLF := hide hlfs
    clear hjo hks ih hdr hok hlf hlfs
    have hST0 : ∀ (st2 : Wst) (i2 : Int) (fl2 : Bool) (wq : World), st2.long = false → st2.out = st.out → st2.col = st.col → st2.brk ≤ st.brk + 1 → WR B b (.slice aL l.length cL) n st2 wq → Below B w wq → Lib.OthersKept 5 (some b) w wq → Blk wq w.heap.size #[.int .i64 kd, .string tx, .int .i64 nn, .slice a2 ks.length c2] 24 → wq.ownsRow BL 24 4 (.slice aL l.length cL) l.length (lfC l) → LyRel B b BL l (.slice aL l.length cL) #[.int .i64 kd, .string tx, .int .i64 nn, .slice a2 ks.length c2] w.heap.size ks r i2 fl2 (layL (jobsOf ks i2) fl2 (tlL r) st2) n w 0 wq := fun st2 i2 fl2 wq g1 g2 g3 g4 g5 g6 g7 g8 g9 =>
      ⟨g6, g7, g8, by omega, g9, Nat.zero_le _, st2, n, g5, Or.inr ⟨g1, by rw [g2, g3]; exact hcol, by rw [g2]; exact ho, by rw [List.drop_zero]; omega, by rw [List.take_zero, leafsL]; rfl, by rw [List.drop_zero]⟩⟩
    have HST0 := hide hST0
    clear hST0
    rcases h4k with rfl | rfl | rfl
    · have h4 := hnn4 rfl
      have HM := hide (show layL (jobsOf ks (ind + nn)) fl (tlL r) st = layJ (jobOf (.mk 4 tx nn ks) ind) fl (tlL r) st by rw [HJO.out, layJ_many hl, if_pos rfl, if_neg (by simp)])
      have HPOST := hide (HPOST0.out _ HM.out)
      have HST := hide (HST0.out st (ind + nn) fl _ hl rfl rfl (by omega) hW1 hbB hkB hbx hrow1)
      have HI2 := hide (show 0 ≤ ind + nn ∧ ind + nn + 1000 * (lev : Int) ≤ 1000000 from ⟨by omega, by omega⟩)
      clear hT hW hrow hW1 hrow1 hba hbx hbB hkB hrt
      go_enter Try.func25, Try.ntmps25
      go_wp2_with fail
      go_loopg [9] ks.length (fun u v9 wr => ∃ k : Nat, Hid (u = ks.length - k) ∧ v9 = .int .i64 (k : Int) ∧ Hid (LyRel B b BL l (.slice aL l.length cL) #[.int .i64 4, .string tx, .int .i64 nn, .slice a2 ks.length c2] w.heap.size ks r (ind + nn) fl (layL (jobsOf ks (ind + nn)) fl (tlL r) st) n w k wr))
      case atStart => exact ⟨0, rfl, rfl, HST⟩
      case round =>
        obtain ⟨k, hu, rfl, hr⟩ := hrel
        have hle := hr.out.le
        have p3 := hr.out.box.cell 3
        have pl := hr.out.box.lt
        obtain ⟨st', n', hW, hst⟩ := hr.out.st
        have c6 := hW.cells.2.2.2.2.2.1
        have bl6 := hW.cells.2.2.2.2.2.2.1
        have HW := hide hW
        by_cases hlt : k < ks.length
        · have hlti : (k : Int) < (ks.length : Int) := by omega
          rcases hst with ⟨hlg, _⟩ | h0
          · have HE := hide (hr.out.fin (Or.inr fun st2 n2 h2 => by
              have q := h2.cells.2.2.2.2.2.1
              rw [HW.out.cells.2.2.2.2.2.1, hlg] at q
              injection q with q
              injection q with q
              exact q.symm))
            rw [hlg] at c6
            go_wp2_with fail
            go_end0
            exact HPOST.out _ _ HE.out
          · obtain ⟨bk, ob, x3, k3, rfl, hob, hbl, e0, e1, e2, e3, hx⟩ := HK.out.getb k hlt
            have hbelow := hr.out.below
            have e0' := (hbelow.cell (p := ⟨bk, ob + k * 4, none⟩) hob).trans e0
            have e1' := (hbelow.cell (p := ⟨bk, ob + k * 4 + 1, none⟩) hob).trans e1
            have e2' := (hbelow.cell (p := ⟨bk, ob + k * 4 + 2, none⟩) hob).trans e2
            have e3' := (hbelow.cell (p := ⟨bk, ob + k * 4 + 3, none⟩) hob).trans e3
            have hbl' := Nat.lt_of_lt_of_le hbl hbelow.size
            have hrk := List.all_eq_true.1 HRT.out ks[k] (List.getElem_mem hlt)
            have hck := cntL_mem (List.getElem_mem hlt)
            have H0 := hide h0
            have hgo := h0
            obtain ⟨g1, g2, g3, g4, g5, g6⟩ := hgo
            have hdr := next_drop HDR.out g5 hlt
            have hcx : cnt ks[k] + cntL (ks.drop (k + 1)) = cntL (ks.drop k) := by rw [List.drop_eq_getElem_cons hlt, cntL]
            have hnle2 : n' ≤ l.length := by
              have h1 := HLE.out
              have h2 := congrArg List.length (leafsL_two ks k hlt)
              rw [List.length_append] at h2
              omega
            have HX := hide (HI.out ks[k] (List.getElem_mem hlt) lev hrk (by have := HC.out; omega) B b BL n' l aL cL (leafsL (ks.drop (k + 1)) ++ r) st' (ind + nn) fl _ wr (RDo.keep ⟨hbelow.size, fun j hj _ => hbelow.block j hj⟩ hx) HW.out hr.out.row hnle2 hdr HNL.out HSZ.out g1 g2 g3 (by omega) HI2.out.1 HI2.out.2 (by have := hbelow.size; have := HBW.out; omega))
            have HR := hide hr.out
            rw [g1] at c6
            clear hx e0 e1 e2 e3 hbelow hr hdr hcx g1 g2 g3 g4 g5 g6 h0 hW hnle2
            go_wp2_with fail
            refine HX.out.mono ?_
            rintro e w2 hp
            have HN := hide (HR.out.next hlt hrk HI2.out.1 HI2.out.2 HW.out H0.out hp)
            obtain rfl := hp.1
            clear hp
            go_wp2_with fail
            go_roundg (ks.length - (k + 1))
            case measure => rw [hu.out]; omega
            case rel => exact ⟨k + 1, rfl, by go_num, HN⟩
        · obtain rfl : k = ks.length := by omega
          have HE := hide (hr.out.fin (Or.inl rfl))
          clear hst hr HW hW
          go_wp2_with fail
          go_end0
          exact HPOST.out _ _ HE.out
    · have HI2 := hide (show 0 ≤ ind ∧ ind + 1000 * (lev : Int) ≤ 1000000 from ⟨by omega, by omega⟩)
      cases fl with
      | true =>
        have HM := hide (show layL (jobsOf ks ind) true (tlL r) st = layJ (jobOf (.mk 5 tx nn ks) ind) true (tlL r) st by rw [HJO.out, layJ_many hl, if_neg (by decide), if_neg (by simp)])
        have HPOST := hide (HPOST0.out _ HM.out)
        have HST := hide (HST0.out st ind true _ hl rfl rfl (by omega) hW1 hbB hkB hbx hrow1)
        clear hT hW hrow hW1 hrow1 hba hbx hbB hkB hrt
        go_enter Try.func25, Try.ntmps25
        go_wp2_with fail
        go_loopg [9] ks.length (fun u v9 wr => ∃ k : Nat, Hid (u = ks.length - k) ∧ v9 = .int .i64 (k : Int) ∧ Hid (LyRel B b BL l (.slice aL l.length cL) #[.int .i64 5, .string tx, .int .i64 nn, .slice a2 ks.length c2] w.heap.size ks r ind true (layL (jobsOf ks ind) true (tlL r) st) n w k wr))
        case atStart => exact ⟨0, rfl, rfl, HST⟩
        case round =>
          obtain ⟨k, hu, rfl, hr⟩ := hrel
          have hle := hr.out.le
          have p3 := hr.out.box.cell 3
          have pl := hr.out.box.lt
          obtain ⟨st', n', hW, hst⟩ := hr.out.st
          have c6 := hW.cells.2.2.2.2.2.1
          have bl6 := hW.cells.2.2.2.2.2.2.1
          have HW := hide hW
          by_cases hlt : k < ks.length
          · have hlti : (k : Int) < (ks.length : Int) := by omega
            rcases hst with ⟨hlg, _⟩ | h0
            · have HE := hide (hr.out.fin (Or.inr fun st2 n2 h2 => by
                have q := h2.cells.2.2.2.2.2.1
                rw [HW.out.cells.2.2.2.2.2.1, hlg] at q
                injection q with q
                injection q with q
                exact q.symm))
              rw [hlg] at c6
              go_wp2_with fail
              go_end0
              exact HPOST.out _ _ HE.out
            · obtain ⟨bk, ob, x3, k3, rfl, hob, hbl, e0, e1, e2, e3, hx⟩ := HK.out.getb k hlt
              have hbelow := hr.out.below
              have e0' := (hbelow.cell (p := ⟨bk, ob + k * 4, none⟩) hob).trans e0
              have e1' := (hbelow.cell (p := ⟨bk, ob + k * 4 + 1, none⟩) hob).trans e1
              have e2' := (hbelow.cell (p := ⟨bk, ob + k * 4 + 2, none⟩) hob).trans e2
              have e3' := (hbelow.cell (p := ⟨bk, ob + k * 4 + 3, none⟩) hob).trans e3
              have hbl' := Nat.lt_of_lt_of_le hbl hbelow.size
              have hrk := List.all_eq_true.1 HRT.out ks[k] (List.getElem_mem hlt)
              have hck := cntL_mem (List.getElem_mem hlt)
              have H0 := hide h0
              have hgo := h0
              obtain ⟨g1, g2, g3, g4, g5, g6⟩ := hgo
              have hdr := next_drop HDR.out g5 hlt
              have hcx : cnt ks[k] + cntL (ks.drop (k + 1)) = cntL (ks.drop k) := by rw [List.drop_eq_getElem_cons hlt, cntL]
              have hnle2 : n' ≤ l.length := by
                have h1 := HLE.out
                have h2 := congrArg List.length (leafsL_two ks k hlt)
                rw [List.length_append] at h2
                omega
              have HX := hide (HI.out ks[k] (List.getElem_mem hlt) lev hrk (by have := HC.out; omega) B b BL n' l aL cL (leafsL (ks.drop (k + 1)) ++ r) st' ind true _ wr (RDo.keep ⟨hbelow.size, fun j hj _ => hbelow.block j hj⟩ hx) HW.out hr.out.row hnle2 hdr HNL.out HSZ.out g1 g2 g3 (by omega) HI2.out.1 HI2.out.2 (by have := hbelow.size; have := HBW.out; omega))
              have HR := hide hr.out
              rw [g1] at c6
              clear hx e0 e1 e2 e3 hbelow hr hdr hcx g1 g2 g3 g4 g5 g6 h0 hW hnle2
              go_wp2_with fail
              refine HX.out.mono ?_
              rintro e w2 hp
              have HN := hide (HR.out.next hlt hrk HI2.out.1 HI2.out.2 HW.out H0.out hp)
              obtain rfl := hp.1
              clear hp
              go_wp2_with fail
              go_roundg (ks.length - (k + 1))
              case measure => rw [hu.out]; omega
              case rel => exact ⟨k + 1, rfl, by go_num, HN⟩
          · obtain rfl : k = ks.length := by omega
            have HE := hide (hr.out.fin (Or.inl rfl))
            clear hst hr HW hW
            go_wp2_with fail
            go_end0
            exact HPOST.out _ _ HE.out
      | false =>
        have HV := hide (RLeaves_any (.mk 5 tx nn ks) (by rw [cnt]; omega) _ _ (RD.below hba hT.to))
        rw [HLF.out] at HV
        have hfit := fit_leafs ks ind r lev st hrt
        have hta : (l.drop n).take (leafsL ks).length = leafsL ks := by rw [HDR.out]; exact List.take_left' rfl
        have hdp : l.drop (n + (leafsL ks).length) = r := by rw [← List.drop_drop, HDR.out]; exact List.drop_left' rfl
        have HFT := hide (fun W (h : Below (w.alloc (.cells #[.int .i64 5, .string tx, .int .i64 nn, .slice a2 ks.length c2] 24)).heap.size (w.alloc (.cells #[.int .i64 5, .string tx, .int .i64 nn, .slice a2 ks.length c2] 24)) W) => fits_any B b n (leafsL ks).length l aL cL BL st W (hW1.below h) (own_below hrow1 h) HLE.out hnl hsz (by omega))
        rw [hta, hdp, ← hfit] at HFT
        have HW1 := hide hW1
        have HBX := hide hbx
        have HRW := hide hrow1
        have HBB := hide hbB
        have HKB := hide hkB
        have hsz1 : B ≤ (w.alloc (.cells #[.int .i64 5, .string tx, .int .i64 nn, .slice a2 ks.length c2] 24)).heap.size := Nat.le_trans hBw hbB.size
        obtain ⟨LN, hLN⟩ : ∃ x, (leafsL ks).length = x := ⟨_, rfl⟩
        have HLN := hide hLN
        rw [hLN] at HFT
        cases hft : fitT (jobsOf ks ind) (tlL r) st with
        | true =>
          have HM := hide (show layL (jobsOf ks ind) true (tlL r) st = layJ (jobOf (.mk 5 tx nn ks) ind) false (tlL r) st by rw [HJO.out, layJ_many hl, if_neg (show ¬ ((5 : Int) = 4) by decide), if_pos (show ((5 : Int) == 5 && !false) = true from rfl), hft, if_pos rfl])
          have HPOST := hide (HPOST0.out _ HM.out)
          rw [hft] at HFT
          clear hT hW hrow hW1 hrow1 hba hbx hbB hkB hrt hfit hta hdp hLN hft
          go_enter Try.func25, Try.ntmps25
          go_wp2_with fail
          refine HV.out.mono ?_
          rintro e w1 ⟨vL, rfl, hp⟩
          obtain ⟨aX, cX, rfl, _⟩ := own_shape hp.out.1
          rw [HLN.out]
          have HX1 := hide (HFT.out _ hp.out.2)
          have HST := hide (HST0.out st ind true w1 hl rfl rfl (by omega) (HW1.out.below hp.out.2) (HBB.out.trans (hp.out.2.mono hsz1)) (HKB.out.trans (kept_below hp.out.2)) (HBX.out.below hp.out.2) (own_below HRW.out hp.out.2))
          clear hp HFT HV
          go_wp2_with fail
          refine HX1.out.mono ?_
          rintro e w2 ⟨rfl, hw2⟩
          subst hw2
          go_wp2_with fail
          go_loopg [9] ks.length (fun u v9 wr => ∃ k : Nat, Hid (u = ks.length - k) ∧ v9 = .int .i64 (k : Int) ∧ Hid (LyRel B b BL l (.slice aL l.length cL) #[.int .i64 5, .string tx, .int .i64 nn, .slice a2 ks.length c2] w.heap.size ks r ind true (layL (jobsOf ks ind) true (tlL r) st) n w k wr))
          case atStart => exact ⟨0, rfl, rfl, HST⟩
          case round =>
            obtain ⟨k, hu, rfl, hr⟩ := hrel
            have hle := hr.out.le
            have p3 := hr.out.box.cell 3
            have pl := hr.out.box.lt
            obtain ⟨st', n', hW, hst⟩ := hr.out.st
            have c6 := hW.cells.2.2.2.2.2.1
            have bl6 := hW.cells.2.2.2.2.2.2.1
            have HW := hide hW
            by_cases hlt : k < ks.length
            · have hlti : (k : Int) < (ks.length : Int) := by omega
              rcases hst with ⟨hlg, _⟩ | h0
              · have HE := hide (hr.out.fin (Or.inr fun st2 n2 h2 => by
                  have q := h2.cells.2.2.2.2.2.1
                  rw [HW.out.cells.2.2.2.2.2.1, hlg] at q
                  injection q with q
                  injection q with q
                  exact q.symm))
                rw [hlg] at c6
                go_wp2_with fail
                go_end0
                exact HPOST.out _ _ HE.out
              · obtain ⟨bk, ob, x3, k3, rfl, hob, hbl, e0, e1, e2, e3, hx⟩ := HK.out.getb k hlt
                have hbelow := hr.out.below
                have e0' := (hbelow.cell (p := ⟨bk, ob + k * 4, none⟩) hob).trans e0
                have e1' := (hbelow.cell (p := ⟨bk, ob + k * 4 + 1, none⟩) hob).trans e1
                have e2' := (hbelow.cell (p := ⟨bk, ob + k * 4 + 2, none⟩) hob).trans e2
                have e3' := (hbelow.cell (p := ⟨bk, ob + k * 4 + 3, none⟩) hob).trans e3
                have hbl' := Nat.lt_of_lt_of_le hbl hbelow.size
                have hrk := List.all_eq_true.1 HRT.out ks[k] (List.getElem_mem hlt)
                have hck := cntL_mem (List.getElem_mem hlt)
                have H0 := hide h0
                have hgo := h0
                obtain ⟨g1, g2, g3, g4, g5, g6⟩ := hgo
                have hdr := next_drop HDR.out g5 hlt
                have hcx : cnt ks[k] + cntL (ks.drop (k + 1)) = cntL (ks.drop k) := by rw [List.drop_eq_getElem_cons hlt, cntL]
                have hnle2 : n' ≤ l.length := by
                  have h1 := HLE.out
                  have h2 := congrArg List.length (leafsL_two ks k hlt)
                  rw [List.length_append] at h2
                  omega
                have HX := hide (HI.out ks[k] (List.getElem_mem hlt) lev hrk (by have := HC.out; omega) B b BL n' l aL cL (leafsL (ks.drop (k + 1)) ++ r) st' ind true _ wr (RDo.keep ⟨hbelow.size, fun j hj _ => hbelow.block j hj⟩ hx) HW.out hr.out.row hnle2 hdr HNL.out HSZ.out g1 g2 g3 (by omega) HI2.out.1 HI2.out.2 (by have := hbelow.size; have := HBW.out; omega))
                have HR := hide hr.out
                rw [g1] at c6
                clear hx e0 e1 e2 e3 hbelow hr hdr hcx g1 g2 g3 g4 g5 g6 h0 hW hnle2
                go_wp2_with fail
                refine HX.out.mono ?_
                rintro e w2 hp
                have HN := hide (HR.out.next hlt hrk HI2.out.1 HI2.out.2 HW.out H0.out hp)
                obtain rfl := hp.1
                clear hp
                go_wp2_with fail
                go_roundg (ks.length - (k + 1))
                case measure => rw [hu.out]; omega
                case rel => exact ⟨k + 1, rfl, by go_num, HN⟩
            · obtain rfl : k = ks.length := by omega
              have HE := hide (hr.out.fin (Or.inl rfl))
              clear hst hr HW hW
              go_wp2_with fail
              go_end0
              exact HPOST.out _ _ HE.out
        | false =>
          have HM := hide (show layL (jobsOf ks ind) false (tlL r) { st with brk := st.brk + 1 } = layJ (jobOf (.mk 5 tx nn ks) ind) false (tlL r) st by rw [HJO.out, layJ_many hl, if_neg (show ¬ ((5 : Int) = 4) by decide), if_pos (show ((5 : Int) == 5 && !false) = true from rfl), hft, if_neg (by simp)])
          have HPOST := hide (HPOST0.out _ HM.out)
          rw [hft] at HFT
          clear hT hW hrow hW1 hrow1 hba hbx hbB hkB hrt hfit hta hdp hLN hft
          go_enter Try.func25, Try.ntmps25
          go_wp2_with fail
          refine HV.out.mono ?_
          rintro e w1 ⟨vL, rfl, hp⟩
          obtain ⟨aX, cX, rfl, _⟩ := own_shape hp.out.1
          rw [HLN.out]
          have HX1 := hide (HFT.out _ hp.out.2)
          have hwr1 := HW1.out.below hp.out.2
          obtain ⟨_, _, _, _, c5, _, bl5, bf5⟩ := hwr1.cells
          have f5 := bf5 5
          have HST := hide (show LyRel B b BL l (.slice aL l.length cL) #[.int .i64 5, .string tx, .int .i64 nn, .slice a2 ks.length c2] w.heap.size ks r ind false (layL (jobsOf ks ind) false (tlL r) { st with brk := st.brk + 1 }) n w 0 (w1.setCell ⟨b, 5, none⟩ (.int .i64 ((st.brk : Int) + 1))) from by
            obtain ⟨_, vv, hbk5, _⟩ := id hwr1
            exact HST0.out { st with brk := st.brk + 1 } ind false _ hl rfl rfl (Nat.le_refl _) (hwr1.setBrk (st.brk + 1)) ((HBB.out.trans (hp.out.2.mono hsz1)).setCell (p := ⟨b, 5, none⟩) hB _) ((HKB.out.trans (kept_below hp.out.2)).setCell ⟨b, 5, none⟩ rfl _) ((HBX.out.below hp.out.2).other (by omega)) (own_set (own_below HRW.out hp.out.2) hbk5 (by decide)))
          clear hp HFT HV hwr1 bf5
          go_wp2_with fail
          refine HX1.out.mono ?_
          rintro e w2 ⟨rfl, hw2⟩
          subst hw2
          go_wp2_with fail
          go_loopg [9] ks.length (fun u v9 wr => ∃ k : Nat, Hid (u = ks.length - k) ∧ v9 = .int .i64 (k : Int) ∧ Hid (LyRel B b BL l (.slice aL l.length cL) #[.int .i64 5, .string tx, .int .i64 nn, .slice a2 ks.length c2] w.heap.size ks r ind false (layL (jobsOf ks ind) false (tlL r) { st with brk := st.brk + 1 }) n w k wr))
          case atStart => exact ⟨0, rfl, rfl, HST⟩
          case round =>
            obtain ⟨k, hu, rfl, hr⟩ := hrel
            have hle := hr.out.le
            have p3 := hr.out.box.cell 3
            have pl := hr.out.box.lt
            obtain ⟨st', n', hW, hst⟩ := hr.out.st
            have c6 := hW.cells.2.2.2.2.2.1
            have bl6 := hW.cells.2.2.2.2.2.2.1
            have HW := hide hW
            by_cases hlt : k < ks.length
            · have hlti : (k : Int) < (ks.length : Int) := by omega
              rcases hst with ⟨hlg, _⟩ | h0
              · have HE := hide (hr.out.fin (Or.inr fun st2 n2 h2 => by
                  have q := h2.cells.2.2.2.2.2.1
                  rw [HW.out.cells.2.2.2.2.2.1, hlg] at q
                  injection q with q
                  injection q with q
                  exact q.symm))
                rw [hlg] at c6
                go_wp2_with fail
                go_end0
                exact HPOST.out _ _ HE.out
              · obtain ⟨bk, ob, x3, k3, rfl, hob, hbl, e0, e1, e2, e3, hx⟩ := HK.out.getb k hlt
                have hbelow := hr.out.below
                have e0' := (hbelow.cell (p := ⟨bk, ob + k * 4, none⟩) hob).trans e0
                have e1' := (hbelow.cell (p := ⟨bk, ob + k * 4 + 1, none⟩) hob).trans e1
                have e2' := (hbelow.cell (p := ⟨bk, ob + k * 4 + 2, none⟩) hob).trans e2
                have e3' := (hbelow.cell (p := ⟨bk, ob + k * 4 + 3, none⟩) hob).trans e3
                have hbl' := Nat.lt_of_lt_of_le hbl hbelow.size
                have hrk := List.all_eq_true.1 HRT.out ks[k] (List.getElem_mem hlt)
                have hck := cntL_mem (List.getElem_mem hlt)
                have H0 := hide h0
                have hgo := h0
                obtain ⟨g1, g2, g3, g4, g5, g6⟩ := hgo
                have hdr := next_drop HDR.out g5 hlt
                have hcx : cnt ks[k] + cntL (ks.drop (k + 1)) = cntL (ks.drop k) := by rw [List.drop_eq_getElem_cons hlt, cntL]
                have hnle2 : n' ≤ l.length := by
                  have h1 := HLE.out
                  have h2 := congrArg List.length (leafsL_two ks k hlt)
                  rw [List.length_append] at h2
                  omega
                have HX := hide (HI.out ks[k] (List.getElem_mem hlt) lev hrk (by have := HC.out; omega) B b BL n' l aL cL (leafsL (ks.drop (k + 1)) ++ r) st' ind false _ wr (RDo.keep ⟨hbelow.size, fun j hj _ => hbelow.block j hj⟩ hx) HW.out hr.out.row hnle2 hdr HNL.out HSZ.out g1 g2 g3 (by omega) HI2.out.1 HI2.out.2 (by have := hbelow.size; have := HBW.out; omega))
                have HR := hide hr.out
                rw [g1] at c6
                clear hx e0 e1 e2 e3 hbelow hr hdr hcx g1 g2 g3 g4 g5 g6 h0 hW hnle2
                go_wp2_with fail
                refine HX.out.mono ?_
                rintro e w2 hp
                have HN := hide (HR.out.next hlt hrk HI2.out.1 HI2.out.2 HW.out H0.out hp)
                obtain rfl := hp.1
                clear hp
                go_wp2_with fail
                go_roundg (ks.length - (k + 1))
                case measure => rw [hu.out]; omega
                case rel => exact ⟨k + 1, rfl, by go_num, HN⟩
            · obtain rfl : k = ks.length := by omega
              have HE := hide (hr.out.fin (Or.inl rfl))
              clear hst hr HW hW
              go_wp2_with fail
              go_end0
              exact HPOST.out _ _ HE.out
    · have HM := hide (show layL (jobsOf ks ind) fl (tlL r) st = layJ (jobOf (.mk 6 tx nn ks) ind) fl (tlL r) st by rw [HJO.out, layJ_many hl, if_neg (show ¬ ((6 : Int) = 4) by decide), if_neg (by simp)])
      have HPOST := hide (HPOST0.out _ HM.out)
      have HST := hide (HST0.out st ind fl _ hl rfl rfl (by omega) hW1 hbB hkB hbx hrow1)
      have HI2 := hide (show 0 ≤ ind ∧ ind + 1000 * (lev : Int) ≤ 1000000 from ⟨by omega, by omega⟩)
      clear hT hW hrow hW1 hrow1 hba hbx hbB hkB hrt
      go_enter Try.func25, Try.ntmps25
      go_wp2_with fail
      go_loopg [9] ks.length (fun u v9 wr => ∃ k : Nat, Hid (u = ks.length - k) ∧ v9 = .int .i64 (k : Int) ∧ Hid (LyRel B b BL l (.slice aL l.length cL) #[.int .i64 6, .string tx, .int .i64 nn, .slice a2 ks.length c2] w.heap.size ks r ind fl (layL (jobsOf ks ind) fl (tlL r) st) n w k wr))
      case atStart => exact ⟨0, rfl, rfl, HST⟩
      case round =>
        obtain ⟨k, hu, rfl, hr⟩ := hrel
        have hle := hr.out.le
        have p3 := hr.out.box.cell 3
        have pl := hr.out.box.lt
        obtain ⟨st', n', hW, hst⟩ := hr.out.st
        have c6 := hW.cells.2.2.2.2.2.1
        have bl6 := hW.cells.2.2.2.2.2.2.1
        have HW := hide hW
        by_cases hlt : k < ks.length
        · have hlti : (k : Int) < (ks.length : Int) := by omega
          rcases hst with ⟨hlg, _⟩ | h0
          · have HE := hide (hr.out.fin (Or.inr fun st2 n2 h2 => by
              have q := h2.cells.2.2.2.2.2.1
              rw [HW.out.cells.2.2.2.2.2.1, hlg] at q
              injection q with q
              injection q with q
              exact q.symm))
            rw [hlg] at c6
            go_wp2_with fail
            go_end0
            exact HPOST.out _ _ HE.out
          · obtain ⟨bk, ob, x3, k3, rfl, hob, hbl, e0, e1, e2, e3, hx⟩ := HK.out.getb k hlt
            have hbelow := hr.out.below
            have e0' := (hbelow.cell (p := ⟨bk, ob + k * 4, none⟩) hob).trans e0
            have e1' := (hbelow.cell (p := ⟨bk, ob + k * 4 + 1, none⟩) hob).trans e1
            have e2' := (hbelow.cell (p := ⟨bk, ob + k * 4 + 2, none⟩) hob).trans e2
            have e3' := (hbelow.cell (p := ⟨bk, ob + k * 4 + 3, none⟩) hob).trans e3
            have hbl' := Nat.lt_of_lt_of_le hbl hbelow.size
            have hrk := List.all_eq_true.1 HRT.out ks[k] (List.getElem_mem hlt)
            have hck := cntL_mem (List.getElem_mem hlt)
            have H0 := hide h0
            have hgo := h0
            obtain ⟨g1, g2, g3, g4, g5, g6⟩ := hgo
            have hdr := next_drop HDR.out g5 hlt
            have hcx : cnt ks[k] + cntL (ks.drop (k + 1)) = cntL (ks.drop k) := by rw [List.drop_eq_getElem_cons hlt, cntL]
            have hnle2 : n' ≤ l.length := by
              have h1 := HLE.out
              have h2 := congrArg List.length (leafsL_two ks k hlt)
              rw [List.length_append] at h2
              omega
            have HX := hide (HI.out ks[k] (List.getElem_mem hlt) lev hrk (by have := HC.out; omega) B b BL n' l aL cL (leafsL (ks.drop (k + 1)) ++ r) st' ind fl _ wr (RDo.keep ⟨hbelow.size, fun j hj _ => hbelow.block j hj⟩ hx) HW.out hr.out.row hnle2 hdr HNL.out HSZ.out g1 g2 g3 (by omega) HI2.out.1 HI2.out.2 (by have := hbelow.size; have := HBW.out; omega))
            have HR := hide hr.out
            rw [g1] at c6
            clear hx e0 e1 e2 e3 hbelow hr hdr hcx g1 g2 g3 g4 g5 g6 h0 hW hnle2
            go_wp2_with fail
            refine HX.out.mono ?_
            rintro e w2 hp
            have HN := hide (HR.out.next hlt hrk HI2.out.1 HI2.out.2 HW.out H0.out hp)
            obtain rfl := hp.1
            clear hp
            go_wp2_with fail
            go_roundg (ks.length - (k + 1))
            case measure => rw [hu.out]; omega
            case rel => exact ⟨k + 1, rfl, by go_num, HN⟩
        · obtain rfl : k = ks.length := by omega
          have HE := hide (hr.out.fin (Or.inl rfl))
          clear hst hr HW hW
          go_wp2_with fail
          go_end0
          exact HPOST.out _ _ HE.out
end Go.Proofs.Ytcmhlfnmjpmjhaa
