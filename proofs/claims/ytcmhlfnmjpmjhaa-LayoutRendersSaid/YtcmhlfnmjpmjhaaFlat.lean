/- The walk of Flat. -/
import Derived.Test.YtcmhlfnmjpmjhaaLeaf
set_option linter.unusedVariables false
set_option linter.unusedSimpArgs false
set_option linter.unnecessarySimpa false
set_option linter.deprecated false
namespace Go.Proofs.Ytcmhlfnmjpmjhaa
open Go.RowKit

theorem ltx_len (x : Dc) : (ltx x).length = x.text.size := by unfold ltx; simp
mutual
theorem leafs_vol : ∀ d, ((leafs d).flatMap ltx).length ≤ vol d
  | .mk k t n ks => by
    rw [leafs, vol]
    split
    · simp [ltx, Dc.text]
    · have := leafsL_vol ks; omega
theorem leafsL_vol : ∀ ks, ((leafsL ks).flatMap ltx).length ≤ volL ks
  | [] => by rw [leafsL]; simp
  | x :: xs => by rw [leafsL, volL, List.flatMap_append, List.length_append]; have := leafs_vol x; have := leafsL_vol xs; omega
end
theorem flatMap_snoc (l : List Dc) (k : Nat) (h : k < l.length) : (l.take (k + 1)).flatMap ltx = (l.take k).flatMap ltx ++ l[k].text.data.toList := by
  rw [List.take_succ_eq_append_getElem h, List.flatMap_append]
  simp [ltx]
theorem flatMap_take (l : List Dc) (k : Nat) : ((l.take k).flatMap ltx).length ≤ (l.flatMap ltx).length := by
  conv => rhs; rw [← List.take_append_drop k l, List.flatMap_append, List.length_append]
  omega
theorem own_others {w w' : World} {B b size n : Nat} {e : TypeId} {v : Value} {xs : List Value} (h : w.ownsRow B e size v n xs) (hk : Lib.OthersKept 5 (some b) w w') (he : e ≠ 5) (hb : b < B) : w'.ownsRow B e size v n xs := by
  refine ⟨h.1, ?_⟩
  rcases h.2 with h2 | ⟨g, cap, cur, e1, e2, e3, e4⟩
  · exact .inl h2
  · refine .inr ⟨g, cap, cur, e1, e2, hk g _ e3 (fun h => by cases h; omega) (fun c fz h => ?_), e4⟩
    injection h with _ h3 _
    exact he h3
structure FltRel (w : World) (b : Nat) (l : List Dc) (v : Value) (k : Nat) (wr : World) : Prop where
  below : Below w.heap.size w wr
  wb : WB True 49 [] w.heap.size b ((l.take k).flatMap ltx) wr
  row : wr.ownsRow (b + 1) 24 4 v l.length (lfC l)
  no : (l.take k).any (fun x => x.kind == 3) = false
  le : k ≤ l.length
theorem flatM_hard {d : Dc} {l : List Dc} (hl : leafs d = l) (hr : rtB 200 d = true) (k : Nat) (hk : k < l.length) (h : l[k].kind = 3) : flatM d = (emptyB, 4) := by
  unfold flatM
  rw [hr, hl, if_pos rfl, if_pos]
  rw [List.any_eq_true]
  exact ⟨l[k], List.getElem_mem hk, by simp [h]⟩
theorem flatM_soft {d : Dc} {l : List Dc} (hl : leafs d = l) (hr : rtB 200 d = true) (h : (l.take l.length).any (fun x => x.kind == 3) = false) : flatM d = (⟨(l.flatMap ltx).toArray⟩, 0) := by
  unfold flatM
  rw [List.take_length] at h
  rw [hr, hl, if_pos rfl, if_neg (by rw [h]; simp)]

set_option maxHeartbeats 4000000 in
set_option maxRecDepth 100000 in
theorem Flat_any (d : Dc) (v : Value) (w : World) (hT : RD w d v) (hc : cnt d ≤ 10000) (hv : vol d ≤ 1000000) :
    Calls Try.prog 18 #[v] w fun e w' => e = .returned (.tuple #[.string (flatM d).1, .int .i64 (flatM d).2]) ∧ Below w.heap.size w w' := by
  obtain ⟨a2, c2, rfl, hkd, htx, hnn, hks⟩ := hT.open
  have hb0 := (Below.refl w.heap.size w).alloc (Nat.le_refl _) (.cells #[.int .i64 d.kind, .string d.text, .int .i64 d.num, .slice a2 d.kids.length c2] 24)
  have HB0 := hide hb0
  have HR := hide (Right_any d _ _ (RD.below hb0 hT) (by omega))
  have hbk := Blk.new w #[.int .i64 d.kind, .string d.text, .int .i64 d.num, .slice a2 d.kids.length c2] 24
  have HBK := hide hbk
  have HT := hide hT
  obtain ⟨l, hl⟩ : ∃ l, leafs d = l := ⟨_, rfl⟩
  have HL := hide hl
  have HLV := hide (show (l.flatMap ltx).length ≤ 1000000 by rw [← hl]; have := leafs_vol d; omega)
  have HLN := hide (show l.length ≤ 10000 by rw [← hl]; have := leafs_len d; omega)
  have HC := hide hc
  clear hT hc hv hks hb0 hbk hl
  cases hr : rtB 200 d with
  | false =>
    rw [hr] at HR
    have hq : flatM d = (emptyB, 140) := by unfold flatM; rw [hr]; rfl
    rw [hq]
    go_enter Try.func18, Try.ntmps18
    go_wp2_with (go_at_call 14; refine HR.out.mono ?_; rintro e w1 ⟨rfl, h1⟩)
    go_ret2
    exact ⟨rfl, below_next HB0.out h1⟩
  | true =>
    rw [hr] at HR
    obtain ⟨⟨rs, re⟩, hres⟩ : ∃ r, flatM d = r := ⟨_, rfl⟩
    have HF := hide hres
    have HRT := hide hr
    rw [hres]
    clear hres hr
    go_enter Try.func18, Try.ntmps18
    go_upto_region 3 with (go_at_call 14; refine HR.out.mono ?_; rintro e w1 ⟨rfl, h1⟩)
    have HB1 := hide (below_next HB0.out h1)
    have hb1 := HBK.out.below h1
    have x0 := hb1.cell 0
    have x1 := hb1.cell 1
    have x2 := hb1.cell 2
    have x3 := hb1.cell 3
    have xl := hb1.lt
    have hba : Below w1.heap.size w1 (w1.alloc (.cells #[.pointer none, .slice none 0 0] 49)) := (Below.refl _ _).alloc (Nat.le_refl _) _
    have HBA := hide hba
    have HV := hide (Leaves_any d (by have := HC.out; omega) _ _ (RD.below (below_next HB1.out hba) HT.out))
    have HWB := hide (show WB True 49 [] w.heap.size w1.heap.size [] (w1.alloc (.cells #[.pointer none, .slice none 0 0] 49)) from
      ⟨HB1.out.size, .pointer none, .slice none 0 0, .inl rfl, Blk.new _ _ _, ⟨rfl, .inl ⟨rfl, rfl⟩⟩, fun _ _ => rfl⟩)
    rw [HL.out] at HV
    clear h1 hb1 hba HT HBK
    go_upto_region 4 with fail
    go_wp2_with fail
    refine HV.out.mono ?_
    rintro e w2 ⟨vL, rfl, hp⟩
    have hown := hp.out.1
    rw [World.size_alloc] at hown
    obtain ⟨aL, cL, rfl, _⟩ := own_shape hown
    have HRL := hide (show FltRel w w1.heap.size l (.slice aL l.length cL) 0 w2 from
      ⟨below_next (below_next HB1.out HBA.out) hp.out.2, by rw [List.take_zero]; exact HWB.out.others (by decide) hp.out.2, hown, by rw [List.take_zero]; rfl, Nat.zero_le _⟩)
    clear hp hown HV HWB x0 x1 x2 x3 xl
    go_wp2_with fail
    go_loopg [13] l.length (fun u v13 wr => ∃ k : Nat, Hid (u = l.length - k) ∧ v13 = .int .i64 (k : Int) ∧ Hid (FltRel w w1.heap.size l (.slice aL l.length cL) k wr))
    case atStart => exact ⟨0, rfl, rfl, HRL⟩
    case round =>
      obtain ⟨k, hu, rfl, hr⟩ := hrel
      have hle := hr.out.le
      have hln := HLN.out
      by_cases hlt : k < l.length
      · have hlti : (k : Int) < (l.length : Int) := by omega
        obtain ⟨aL', cL', e9, hat⟩ := own_shape hr.out.row
        obtain ⟨rfl, rfl⟩ : aL = aL' ∧ cL = cL' := by injection e9 with e1 _ e2; exact ⟨e1, e2⟩
        obtain ⟨g, rfl, hBg, hgl, hcell⟩ := hat (by omega)
        obtain ⟨y0, y1, y2, y3⟩ := lfC_get l k hlt
        have z0 := hcell _ _ y0
        have z1 := hcell _ _ y1
        have z2 := hcell _ _ y2
        have z3 := hcell _ _ y3
        have hba := (Below.refl wr.heap.size wr).alloc (Nat.le_refl _) (.cells #[.int .i64 l[k].kind, .string l[k].text, .int .i64 l[k].num, .slice none 0 0] 24)
        have HBB := hide (below_next hr.out.below hba)
        have hwb := hr.out.wb.others (by decide) hba
        have h1 := flatMap_snoc l k hlt
        have h2 := flatMap_take l (k + 1)
        have h3 := congrArg List.length h1
        rw [List.length_append, size_len] at h3
        have HW := hide (WriteString_b lt49 w.heap.size w1.heap.size _ l[k].text _ hwb (by have := HLV.out; omega) (by have := HBB.out.size; omega))
        have HRW := hide (own_below hr.out.row hba)
        have HSN := hide h1
        have HNO := hide hr.out.no
        clear y0 y1 y2 y3 hba hwb h1 h2 h3 hcell hat e9
        by_cases k3 : l[k].kind = 3
        · have HE := hide (flatM_hard HL.out HRT.out k hlt k3)
          rw [HF.out] at HE
          obtain ⟨rfl, rfl⟩ := Prod.mk.inj HE.out
          rw [k3] at z0 HBB
          clear HW HRW HSN k3
          go_wp2_with fail
          go_ret2
          exact ⟨rfl, HBB.out⟩
        · have m3 : (l[k].kind == 3) = false := by rw [beq_eq_false_iff_ne]; exact k3
          go_wp2_with fail
          refine HW.out.mono ?_
          rintro e w3 ⟨rfl, h1, h2, h3⟩
          have HN := hide (show FltRel w w1.heap.size l (.slice (some ⟨g, 0, none⟩) l.length cL) (k + 1) w3 from
            ⟨HBB.out.trans h2, by rw [HSN.out]; exact h1, own_others HRW.out h3 (by decide) (by omega), by rw [List.take_succ_eq_append_getElem hlt, List.any_append, HNO.out]; simp [m3], hlt⟩)
          clear h1 h2 h3
          go_wp2_with fail
          go_roundg (l.length - (k + 1))
          case measure => rw [hu.out]; omega
          case rel => exact ⟨k + 1, rfl, by go_num, HN⟩
      · obtain rfl : k = l.length := by omega
        have HE := hide (flatM_soft HL.out HRT.out hr.out.no)
        rw [HF.out] at HE
        obtain ⟨rfl, rfl⟩ := Prod.mk.inj HE.out
        have hwb := hr.out.wb
        rw [List.take_length] at hwb
        have HS := hide (String_b w.heap.size w1.heap.size _ wr hwb)
        have HB := hide hr.out.below
        clear hwb HE
        go_wp2_with (go_at_call 22; refine HS.out.mono ?_; rintro e w3 ⟨rfl, h3⟩)
        go_ret2
        exact ⟨rfl, HB.out.trans h3⟩
end Go.Proofs.Ytcmhlfnmjpmjhaa
