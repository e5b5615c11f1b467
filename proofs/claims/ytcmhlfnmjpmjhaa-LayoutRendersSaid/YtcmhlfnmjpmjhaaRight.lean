/- The walk of right. -/
import Derived.Test.YtcmhlfnmjpmjhaaWrite
set_option linter.unusedVariables false
set_option linter.unusedSimpArgs false
set_option linter.unnecessarySimpa false
set_option linter.deprecated false
namespace Go.Proofs.Ytcmhlfnmjpmjhaa
open Go.RowKit

/-- Is a document right, but for its kids? -/
def okK (k : Int) (t : ByteArray) (n : Int) (kl : Nat) : Bool :=
  if k = 1 ∨ k = 2 then decide (Lib.indexByte t.data.toList 10 < 0) && decide (n = 0) && decide (kl = 0)
  else if k = 3 then decide (t.toList = []) && decide (n = 0) && decide (kl = 0)
  else if k = 4 then decide (t.toList = []) && decide (0 ≤ n) && decide (n ≤ 1000)
  else if k = 5 ∨ k = 6 then decide (t.toList = []) && decide (n = 0)
  else false
/-- Is a document right, and no deeper than some levels? -/
def rtB : Nat → Dc → Bool
  | 0, _ => false
  | l + 1, .mk k t n ks => okK k t n ks.length && ks.all (rtB l)

/-- What right answers. -/
def RightP (lev : Nat) (d : Dc) (bl L : Nat) (w : World) (e : Ending) (w' : World) : Prop :=
  e = .returned (.bool (rtB lev d)) ∧ Hid (∃ L', L' ≤ L ∧ L ≤ L' + cnt d ∧ Blk w' bl #[.int .i64 (L' : Int)] 3 ∧ Wrote (fun k _ => k = bl) w w')

theorem RKo.getb {ok : Nat → Prop} {w : World} {a : Option Addr} {ks : List Dc} (h : RKo ok w a ks) (i : Nat) (hi : i < ks.length) : ∃ b o a1 c1, a = some ⟨b, o, none⟩ ∧ ok b ∧ b < w.heap.size ∧
    w.cell? ⟨b, o + i * 4, none⟩ = some (.int .i64 ks[i].kind) ∧ w.cell? ⟨b, o + i * 4 + 1, none⟩ = some (.string ks[i].text) ∧ w.cell? ⟨b, o + i * 4 + 2, none⟩ = some (.int .i64 ks[i].num) ∧ w.cell? ⟨b, o + i * 4 + 3, none⟩ = some (.slice a1 ks[i].kids.length c1) ∧
    RDo ok w ks[i] (.agg #[.int .i64 ks[i].kind, .string ks[i].text, .int .i64 ks[i].num, .slice a1 ks[i].kids.length c1]) := by
  obtain ⟨b, o, a1, c1, e, hb, h0, h1, h2, h3, hx⟩ := h.get i hi
  obtain ⟨b', o', e', hob, _⟩ := h.2 (by rintro rfl; simp at hi)
  rw [e] at e'
  cases e'
  exact ⟨b, o, a1, c1, e, hob, hb, h0, h1, h2, h3, hx⟩
theorem blk_set {w : World} {k : Nat} {v u : Value} {t : TypeId} (h : Blk w k #[v] t) : Blk (w.setCell ⟨k, 0, none⟩ u) k #[u] t := one_set h

theorem idx33 (s : ByteArray) (w : World) : Calls Try.prog 33 #[.string s, .int .u8 10] w fun e w' => e = .returned (.int .i64 (Lib.indexByte s.data.toList 10)) ∧ w' = w := Try.strings_IndexByte s 10 w

theorem cntL_append (a b : List Dc) : cntL (a ++ b) = cntL a + cntL b := by
  induction a with
  | nil => rw [cntL]; simp
  | cons x xs ih => rw [List.cons_append, cntL, cntL, ih]; omega
theorem cntL_take (ks : List Dc) (k : Nat) : cntL (ks.take k) ≤ cntL ks := by
  have h := congrArg cntL (List.take_append_drop k ks)
  rw [cntL_append] at h
  omega
theorem len_beq (n : Nat) : ((n : Int) == 0) = decide (n = 0) := by
  by_cases h : n = 0
  · subst h; rfl
  · simp [h]

theorem int_beq (n : Int) : (n == 0) = decide (n = 0) := by
  by_cases h : n = 0
  · subst h; rfl
  · simp [h]

/-- What stands between two rounds. -/
structure RtRel (bl L : Nat) (ks : List Dc) (w : World) (k : Nat) (wr : World) : Prop where
  le : k ≤ ks.length
  ex : ∃ L', L' ≤ L ∧ L ≤ L' + cntL (ks.take k) ∧ Blk wr bl #[.int .i64 (L' : Int)] 3
  wrote : Wrote (fun k _ => k = bl) w wr

set_option maxHeartbeats 4000000 in
set_option maxRecDepth 100000 in
theorem right_any (ok : Nat → Prop) : ∀ (lev : Nat) (d : Dc) (v : Value) (bl L : Nat) (w : World), lev ≤ 200 → (∀ k, ok k → k ≠ bl ∧ k < w.heap.size) → RDo ok w d v → Blk w bl #[.int .i64 (L : Int)] 3 → cnt d ≤ L → L ≤ 20000 →
    Calls Try.prog 26 #[v, .int .i64 (lev : Int), .pointer (some ⟨bl, 0, none⟩)] w (RightP lev d bl L w) := by
  intro lev
  induction lev with
  | zero =>
    intro d v bl L w hlev hok hT hbl hcnt hL
    obtain ⟨a2, c2, rfl, hkd, htx, hnn, hks⟩ := hT.open
    have hc1 := cnt_pos d
    have hba := (Below.refl w.heap.size w).alloc (Nat.le_refl _) (.cells #[.int .i64 d.kind, .string d.text, .int .i64 d.num, .slice a2 d.kids.length c2] 24)
    have hb2 := hbl.below hba
    have e0 := hb2.cell 0
    have ef := hb2.free 0
    have el := hb2.lt
    have HE := hide (show ∃ L', L' ≤ L ∧ L ≤ L' + cnt d ∧ Blk ((w.alloc (.cells #[.int .i64 d.kind, .string d.text, .int .i64 d.num, .slice a2 d.kids.length c2] 24)).setCell ⟨bl, 0, none⟩ (.int .i64 ((L : Int) - 1))) bl #[.int .i64 (L' : Int)] 3 ∧ Wrote (fun k _ => k = bl) w ((w.alloc (.cells #[.int .i64 d.kind, .string d.text, .int .i64 d.num, .slice a2 d.kids.length c2] 24)).setCell ⟨bl, 0, none⟩ (.int .i64 ((L : Int) - 1))) from
      ⟨L - 1, by omega, by omega, by rw [show ((L - 1 : Nat) : Int) = (L : Int) - 1 by omega]; exact one_set hb2, (Wrote.alloc _ _ _).trans (Wrote.set _ _ hb2 rfl)⟩)
    have hx : RtRel bl L [] w 0 w := ⟨Nat.zero_le _, ⟨L, Nat.le_refl _, by simp [cntL], hbl⟩, Wrote.refl _ _⟩
    clear hbl hb2 hba hks hT hx
    go_enter Try.func26, Try.ntmps26
    go_wp2_with fail
    go_ret
    exact ⟨by rw [rtB]; rfl, HE.out⟩
  | succ lev ih =>
    intro d v bl L w hlev hok hT hbl hcnt hL
    obtain ⟨kd, tx, nn, ks⟩ := d
    obtain ⟨a2, c2, rfl, hkd, htx, hnn, hks⟩ := hT.open
    simp only [Dc.kind, Dc.text, Dc.num, Dc.kids] at hks htx hkd hnn ⊢
    rw [cnt] at hcnt
    have hkl := len_cntL ks
    have hba := (Below.refl w.heap.size w).alloc (Nat.le_refl _) (.cells #[.int .i64 kd, .string tx, .int .i64 nn, .slice a2 ks.length c2] 24)
    have hb2 := hbl.below hba
    have e0 := hb2.cell 0
    have ef := hb2.free 0
    have el := hb2.lt
    have hne : w.heap.size ≠ bl := by have := hbl.lt; omega
    obtain ⟨W1, hW1⟩ : ∃ W1, (w.alloc (.cells #[.int .i64 kd, .string tx, .int .i64 nn, .slice a2 ks.length c2] 24)).setCell ⟨bl, 0, none⟩ (.int .i64 ((L : Int) - 1)) = W1 := ⟨_, rfl⟩
    have hbx : Blk W1 w.heap.size #[.int .i64 kd, .string tx, .int .i64 nn, .slice a2 ks.length c2] 24 := by
      rw [← hW1]
      exact (Below.heap_setCell _ _ _ _ hne).trans (Blk.new w _ _)
    have hb3 : Blk W1 bl #[.int .i64 ((L - 1 : Nat) : Int)] 3 := by
      rw [← hW1, show ((L - 1 : Nat) : Int) = (L : Int) - 1 by omega]
      exact one_set hb2
    have hwr : Wrote (fun k _ => k = bl) w W1 := by
      rw [← hW1]
      exact (Wrote.alloc _ _ _).trans (Wrote.set _ _ hb2 rfl)
    have x0 := hbx.cell 0
    have x1 := hbx.cell 1
    have x2 := hbx.cell 2
    have x3 := hbx.cell 3
    have xl := hbx.lt
    have y0 : W1.cell? ⟨bl, 0, none⟩ = some (.int .i64 ((L : Int) - 1)) := by
      have := hb3.cell 0
      rw [show ((L - 1 : Nat) : Int) = (L : Int) - 1 by omega] at this
      exact this
    have yl := hb3.lt
    have HB3 := hide hb3
    have HBX := hide hbx
    have HWR := hide hwr
    have HK := hide hks
    have HOK := hide hok
    have HIH := hide ih
    have HCN := hide hcnt
    clear hbx hb3 hwr hks hT hbl hb2 hba ih hok hne
    have hq1 : ((lev : Int) + 1 == 0) = false := by simp; omega
    have hq2 : decide ((L : Int) - 1 < 0) = false := by simp; omega
    have hq3 : ¬ ((L : Int) - 1 < 0) := by omega
    go_enter Try.func26, Try.ntmps26
    go_upto_block 0 with fail
    go_cut [7] from 7 to 84 (fun v7 wc => v7 = .bool (okK kd tx nn ks.length) ∧ wc = W1)
    case first =>
      have HIB := hide (fun W => idx33 tx W)
      have HB0 := hide (show ((ks.length : Int) == 0) = decide (ks.length = 0) from len_beq ks.length)
      by_cases k1 : kd = 1
      · subst k1
        have HO := hide (show okK 1 tx nn ks.length = (decide (Lib.indexByte tx.data.toList 10 < 0) && decide (nn = 0) && decide (ks.length = 0)) from rfl)
        cases hb1 : decide (Lib.indexByte tx.data.toList 10 < 0) with
        | true =>
          by_cases hn : nn = 0
          · subst hn
            rw [hb1, (show decide (ks.length = 0) = ((ks.length : Int) == 0) from HB0.out.symm)] at HO
            go_wp2_with (go_at_call 33; refine (HIB.out _).mono ?_; rintro e w' ⟨rfl, hw⟩; rw [hw])
            go_meet
            exact ⟨by rw [HO.out]; rfl, rfl⟩
          · have hnf : (nn == 0) = false := by simp [hn]
            rw [hb1, show decide (nn = 0) = false by simp [hn]] at HO
            go_wp2_with (go_at_call 33; refine (HIB.out _).mono ?_; rintro e w' ⟨rfl, hw⟩; rw [hw])
            go_meet
            exact ⟨by rw [HO.out]; rfl, rfl⟩
        | false =>
          rw [hb1] at HO
          go_wp2_with (go_at_call 33; refine (HIB.out _).mono ?_; rintro e w' ⟨rfl, hw⟩; rw [hw])
          go_meet
          exact ⟨by rw [HO.out]; rfl, rfl⟩
      have q1 : (kd == 1) = false := by simp [k1]
      by_cases k2 : kd = 2
      · subst k2
        have HO := hide (show okK 2 tx nn ks.length = (decide (Lib.indexByte tx.data.toList 10 < 0) && decide (nn = 0) && decide (ks.length = 0)) from rfl)
        cases hb1 : decide (Lib.indexByte tx.data.toList 10 < 0) with
        | true =>
          by_cases hn : nn = 0
          · subst hn
            rw [hb1, (show decide (ks.length = 0) = ((ks.length : Int) == 0) from HB0.out.symm)] at HO
            go_wp2_with (go_at_call 33; refine (HIB.out _).mono ?_; rintro e w' ⟨rfl, hw⟩; rw [hw])
            go_meet
            exact ⟨by rw [HO.out]; rfl, rfl⟩
          · have hnf : (nn == 0) = false := by simp [hn]
            rw [hb1, show decide (nn = 0) = false by simp [hn]] at HO
            go_wp2_with (go_at_call 33; refine (HIB.out _).mono ?_; rintro e w' ⟨rfl, hw⟩; rw [hw])
            go_meet
            exact ⟨by rw [HO.out]; rfl, rfl⟩
        | false =>
          rw [hb1] at HO
          go_wp2_with (go_at_call 33; refine (HIB.out _).mono ?_; rintro e w' ⟨rfl, hw⟩; rw [hw])
          go_meet
          exact ⟨by rw [HO.out]; rfl, rfl⟩
      have q2 : (kd == 2) = false := by simp [k2]
      by_cases k3 : kd = 3
      · subst k3
        have HO := hide (show okK 3 tx nn ks.length = (decide (tx.toList = []) && decide (nn = 0) && decide (ks.length = 0)) from rfl)
        by_cases ht : tx.toList = []
        · have htf := ht
          by_cases hn : nn = 0
          · subst hn
            rw [show decide (tx.toList = []) = true from decide_eq_true ht, (show decide (ks.length = 0) = ((ks.length : Int) == 0) from HB0.out.symm)] at HO
            go_wp2_with fail
            go_meet
            exact ⟨by rw [HO.out]; rfl, rfl⟩
          · have hnf : (nn == 0) = false := by simp [hn]
            rw [show decide (tx.toList = []) = true from decide_eq_true ht, show decide (nn = 0) = false by simp [hn]] at HO
            go_wp2_with fail
            go_meet
            exact ⟨by rw [HO.out]; rfl, rfl⟩
        · have htf := ht
          rw [show decide (tx.toList = []) = false by simp [ht]] at HO
          go_wp2_with fail
          go_meet
          exact ⟨by rw [HO.out]; rfl, rfl⟩
      have q3 : (kd == 3) = false := by simp [k3]
      by_cases k4 : kd = 4
      · subst k4
        have HO := hide (show okK 4 tx nn ks.length = (decide (tx.toList = []) && decide (0 ≤ nn) && decide (nn ≤ 1000)) from rfl)
        by_cases ht : tx.toList = []
        · have htf := ht
          cases hn : decide (0 ≤ nn) with
          | true =>
            rw [show decide (tx.toList = []) = true from decide_eq_true ht, hn] at HO
            go_wp2_with fail
            go_meet
            exact ⟨by rw [HO.out]; rfl, rfl⟩
          | false =>
            rw [show decide (tx.toList = []) = true from decide_eq_true ht, hn] at HO
            go_wp2_with fail
            go_meet
            exact ⟨by rw [HO.out]; rfl, rfl⟩
        · have htf := ht
          rw [show decide (tx.toList = []) = false by simp [ht]] at HO
          go_wp2_with fail
          go_meet
          exact ⟨by rw [HO.out]; rfl, rfl⟩
      have q4 : (kd == 4) = false := by simp [k4]
      by_cases k5 : kd = 5
      · subst k5
        have HO := hide (show okK 5 tx nn ks.length = (decide (tx.toList = []) && decide (nn = 0)) from rfl)
        by_cases ht : tx.toList = []
        · have htf := ht
          have HN0 := hide (int_beq nn)
          rw [show decide (tx.toList = []) = true from decide_eq_true ht, (show decide (nn = 0) = (nn == 0) from HN0.out.symm)] at HO
          go_wp2_with fail
          go_meet
          exact ⟨by rw [HO.out]; rfl, rfl⟩
        · have htf := ht
          rw [show decide (tx.toList = []) = false by simp [ht]] at HO
          go_wp2_with fail
          go_meet
          exact ⟨by rw [HO.out]; rfl, rfl⟩
      have q5 : (kd == 5) = false := by simp [k5]
      by_cases k6 : kd = 6
      · subst k6
        have HO := hide (show okK 6 tx nn ks.length = (decide (tx.toList = []) && decide (nn = 0)) from rfl)
        by_cases ht : tx.toList = []
        · have htf := ht
          have HN0 := hide (int_beq nn)
          rw [show decide (tx.toList = []) = true from decide_eq_true ht, (show decide (nn = 0) = (nn == 0) from HN0.out.symm)] at HO
          go_wp2_with fail
          go_meet
          exact ⟨by rw [HO.out]; rfl, rfl⟩
        · have htf := ht
          rw [show decide (tx.toList = []) = false by simp [ht]] at HO
          go_wp2_with fail
          go_meet
          exact ⟨by rw [HO.out]; rfl, rfl⟩
      have q6 : (kd == 6) = false := by simp [k6]
      have HO := hide (show okK kd tx nn ks.length = false by unfold okK; simp [k1, k2, k3, k4, k5, k6])
      go_wp2_with fail
      go_meet
      exact ⟨by rw [HO.out], rfl⟩
    case rest =>
      obtain ⟨rfl, rfl⟩ := hcut
      obtain ⟨ok0, hok0⟩ : ∃ b, okK kd tx nn ks.length = b := ⟨_, rfl⟩
      have HO0 := hide hok0
      rw [hok0]
      clear hok0 hW1 x0 x1 x2 y0 e0 ef el
      go_wp2_with fail
      go_loopg [7, 88] ks.length (fun u v7 v88 wr => ∃ k : Nat, Hid (u = ks.length - k) ∧ v88 = .int .i64 (k : Int) ∧ v7 = .bool (ok0 && (ks.take k).all (rtB lev)) ∧ Hid (RtRel bl (L - 1) ks wc k wr))
      case atStart => exact ⟨0, rfl, rfl, by simp, ⟨Nat.zero_le _, ⟨L - 1, Nat.le_refl _, by simp [cntL], HB3.out⟩, Wrote.refl _ _⟩⟩
      case round =>
        obtain ⟨k, hu, rfl, rfl, hr⟩ := hrel
        have hle := hr.out.le
        obtain ⟨L', hl1, hl2, hbk⟩ := hr.out.ex
        have hwt := HWR.out.trans hr.out.wrote
        obtain ⟨acc, hacc⟩ : ∃ b, (ok0 && (ks.take k).all (rtB lev)) = b := ⟨_, rfl⟩
        rw [hacc]
        by_cases hlt : k < ks.length
        · have hlti : (k : Int) < (ks.length : Int) := by omega
          have hsnoc : (ok0 && (ks.take (k + 1)).all (rtB lev)) = (acc && rtB lev ks[k]) := by
            rw [List.take_succ_eq_append_getElem hlt, List.all_append, ← Bool.and_assoc, hacc]; simp
          obtain ⟨b, o, a1, c1, rfl, hob, hbl, z0, z1, z2, z3, hx⟩ := HK.out.getb k hlt
          have hnb : ∀ i v, w.cell? ⟨b, i, none⟩ = some v → wr.cell? ⟨b, i, none⟩ = some v := fun i v e => hwt.kc.cell (fun t h => (HOK.out b hob).1 h) e
          have z0' := hnb _ _ z0
          have z1' := hnb _ _ z1
          have z2' := hnb _ _ z2
          have z3' := hnb _ _ z3
          have hbl' := Nat.lt_of_lt_of_le hbl hwt.size
          have hct : cntL (ks.take (k + 1)) = cntL (ks.take k) + cnt ks[k] := by rw [List.take_succ_eq_append_getElem hlt, cntL_append]; simp [cntL]
          have hcl : cntL (ks.take (k + 1)) ≤ cntL ks := cntL_take ks (k + 1)
          have hba := (Below.refl wr.heap.size wr).alloc (Nat.le_refl _) (.cells #[.int .i64 ks[k].kind, .string ks[k].text, .int .i64 ks[k].num, .slice a1 ks[k].kids.length c1] 24)
          have hX := HIH.out ks[k] _ bl L' (wr.alloc (.cells #[.int .i64 ks[k].kind, .string ks[k].text, .int .i64 ks[k].num, .slice a1 ks[k].kids.length c1] 24)) (by omega) (fun j hj => ⟨(HOK.out j hj).1, Nat.lt_of_lt_of_le (HOK.out j hj).2 (Nat.le_trans hwt.size hba.size)⟩)
            (RDo.keep (Keep.trans (hwt.keep (fun j t hj h => (HOK.out j hj).1 h)) (keep_below hba)) hx) (hbk.below hba) (by have := HCN.out; omega) (by omega)
          have HX := hide hX
          have HSN := hide hsnoc
          have HWT := hide hr.out.wrote
          have HL2 := hide hl2
          have HCT := hide hct
          have HBK := hide hbk
          clear hX hsnoc hx z0 z1 z2 z3 hnb hba hbk hacc hwt hct hcl hl2
          cases acc with
          | true =>
            go_wp2_with (go_at_call 26; refine HX.out.mono ?_; rintro e w2 ⟨rfl, h2⟩)
            go_roundg (ks.length - (k + 1))
            case measure => rw [hu.out]; omega
            case rel =>
              obtain ⟨L2, g1, g2, g3, g4⟩ := h2.out
              exact ⟨k + 1, rfl, by go_num, by rw [HSN.out]; rfl, ⟨hlt, ⟨L2, by omega, by have := HL2.out; have := HCT.out; omega, g3⟩, HWT.out.trans ((Wrote.alloc _ _ _).trans g4)⟩⟩
          | false =>
            go_wp2_with fail
            go_roundg (ks.length - (k + 1))
            case measure => rw [hu.out]; omega
            case rel =>
              exact ⟨k + 1, rfl, by go_num, by rw [HSN.out]; rfl, ⟨hlt, ⟨L', by omega, by have := HL2.out; have := HCT.out; omega, (HBK.out.below ((Below.refl _ _).alloc (Nat.le_refl _) _))⟩, HWT.out.trans (Wrote.alloc _ _ _)⟩⟩
        · obtain rfl : k = ks.length := by omega
          rw [List.take_length] at hacc hl2
          have HE := hide (show RightP (lev + 1) (.mk kd tx nn ks) bl L w (.returned (.bool acc)) wr from ⟨by rw [rtB, HO0.out, hacc], L', by omega, by rw [cnt]; omega, hbk, hwt⟩)
          clear hacc hbk hwt
          go_wp2_with fail
          go_ret
          exact HE.out

set_option maxHeartbeats 1000000 in
set_option maxRecDepth 100000 in
theorem Right_any (d : Dc) (v : Value) (w : World) (hT : RD w d v) (hc : cnt d ≤ 20000) : Calls Try.prog 14 #[v] w fun e w' => e = .returned (.bool (rtB 200 d)) ∧ Below w.heap.size w w' := by
  obtain ⟨a2, c2, rfl, hkd, htx, hnn, hks⟩ := hT.open
  have hb0 : Below w.heap.size w ((w.alloc (.cells #[.int .i64 d.kind, .string d.text, .int .i64 d.num, .slice a2 d.kids.length c2] 24)).alloc (.cells #[.int .i64 20000] 3)) := ((Below.refl _ w).alloc (Nat.le_refl _) _).alloc (by simp) _
  have hbl : Blk ((w.alloc (.cells #[.int .i64 d.kind, .string d.text, .int .i64 d.num, .slice a2 d.kids.length c2] 24)).alloc (.cells #[.int .i64 20000] 3)) (w.heap.size + 1) #[.int .i64 20000] 3 := by
    have := Blk.new (w.alloc (.cells #[.int .i64 d.kind, .string d.text, .int .i64 d.num, .slice a2 d.kids.length c2] 24)) #[.int .i64 20000] 3
    rw [World.size_alloc] at this
    exact this
  have HX := hide (right_any (fun k => k < w.heap.size) 200 d _ (w.heap.size + 1) 20000 _ (Nat.le_refl _) (fun k hk => ⟨by omega, by have := hb0.size; omega⟩) (RDo.keep (keep_below hb0) (RDo.low hT)) hbl hc (Nat.le_refl _))
  have HB := hide hb0
  clear hb0 hbl hT hks
  go_enter Try.func14, Try.ntmps14
  go_wp2_with (go_at_call 26; refine HX.out.mono ?_; rintro e w2 ⟨rfl, h2⟩)
  go_ret
  obtain ⟨L', _, _, _, hw⟩ := h2.out
  exact ⟨rfl, HB.out.trans (hw.below (by have := HB.out.size; omega) (fun k t h => by omega))⟩
end Go.Proofs.Ytcmhlfnmjpmjhaa
