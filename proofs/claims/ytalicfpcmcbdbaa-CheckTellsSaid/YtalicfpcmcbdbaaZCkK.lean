/- The reference: undefined. -/
import Derived.Test.YtalicfpcmcbdbaaZCkG
import Derived.Test.YtalicfpcmcbdbaaZRefS
import Derived.Test.YtalicfpcmcbdbaaZLookA
import Derived.Test.YtalicfpcmcbdbaaZInL
import Derived.BigQuiet
set_option linter.unusedVariables false
set_option linter.unusedSimpArgs false
set_option linter.unnecessarySimpa false
set_option linter.deprecated false
namespace Go.Proofs.Ytalicfpcmcbdbaa
open Go.RowKit

theorem firstL_split (c : Int) (p : ByteArray → Bool) (l pre post : List ByteArray) (n : ByteArray) (e : l = pre ++ n :: post) (hf : ∀ s ∈ pre, p s = false) (hn : p n = true) : firstL c p l = (c, n) := by
  have hk : pre.length < l.length := by rw [e]; simp
  have := firstL_hit c p l pre.length hk (fun j hj hjl => by
    have : l[j] = pre[j] := by simp only [e]; rw [List.getElem_append_left hjl]
    rw [this]; exact hf _ (List.getElem_mem hjl)) (by
    have : l[pre.length] = n := by simp only [e]; rw [List.getElem_append_right (Nat.le_refl _)]; simp
    rw [this]; exact hn)
  rw [this]
  congr 1
  simp only [e]; rw [List.getElem_append_right (Nat.le_refl _)]; simp
theorem drop_cons' {α : Type} (l : List α) (k : Nat) (h : k < l.length) : l = l.take k ++ l[k] :: l.drop (k + 1) := by
  rw [← List.drop_eq_getElem_cons h, List.take_append_drop]
theorem used_p (d : Df) (k j : Nat) (hk : k < d.prods.length) (hj : j < (d.prods[k]).syms.length) (he : emp ((d.prods[k]).syms[j]).name = false) : ∃ post, usedL d = (used1 d k ++ namesOf ((d.prods[k]).syms.take j)) ++ ((d.prods[k]).syms[j]).name :: post := by
  refine ⟨namesOf ((d.prods[k]).syms.drop (j + 1)) ++ ((d.prods.drop (k + 1)).flatMap namesL ++ d.follows.map Fl.sort ++ d.rejects.flatMap rejN), ?_⟩
  have h1 : d.prods.flatMap namesL = used1 d k ++ (namesL d.prods[k] ++ (d.prods.drop (k + 1)).flatMap namesL) := by
    unfold used1
    conv => lhs; rw [drop_cons' d.prods k hk]
    rw [List.flatMap_append, List.flatMap_cons]
  have h2 : namesL d.prods[k] = namesOf ((d.prods[k]).syms.take j) ++ ((d.prods[k]).syms[j]).name :: namesOf ((d.prods[k]).syms.drop (j + 1)) := by
    unfold namesL
    conv => lhs; rw [drop_cons' (d.prods[k]).syms j hj]
    unfold namesOf
    rw [List.filter_append, List.map_append, List.filter_cons, if_pos (by rw [he]; rfl)]
    rfl
  unfold usedL
  rw [h1, h2]
  simp only [List.append_assoc, List.cons_append]
theorem used_f (d : Df) (k : Nat) (hk : k < d.follows.length) : ∃ post, usedL d = used2 d k ++ (d.follows[k]).sort :: post := by
  refine ⟨(d.follows.drop (k + 1)).map Fl.sort ++ d.rejects.flatMap rejN, ?_⟩
  unfold usedL used2
  conv => lhs; rw [drop_cons' d.follows k hk]
  rw [List.map_append, List.map_cons]
  simp only [List.append_assoc, List.cons_append]
theorem used_r (d : Df) (k : Nat) (hk : k < d.rejects.length) : ∃ post, usedL d = used3 d k ++ (d.rejects[k]).sort :: (d.rejects[k]).by_ :: post := by
  refine ⟨(d.rejects.drop (k + 1)).flatMap rejN, ?_⟩
  unfold usedL used3
  conv => lhs; rw [drop_cons' d.rejects k hk]
  rw [List.flatMap_append, List.flatMap_cons]
  simp only [List.append_assoc, List.cons_append, rejN, List.nil_append]
theorem inB_lex (l : List Pd) (s : ByteArray) : inB s (sortsL l) = !decide (lexOf l s = 0) := by
  rcases lexOf_cases l s with ⟨h1, h2⟩ | ⟨h1, h2⟩
  · rw [decide_eq_true h1]
    cases h : inB s (sortsL l)
    · rfl
    · exact absurd ((inB_iff _ _).1 h) h2
  · rw [(inB_iff _ _).2 h1, decide_eq_false (by omega)]; rfl
theorem namesOf_snoc2 (l : List Sy) (s : Sy) : namesOf (l ++ [s]) = namesOf l ++ (if emp s.name = true then [] else [s.name]) := by
  unfold namesOf
  rw [List.filter_append, List.map_append]
  cases h : emp s.name <;> simp [h]
theorem undef_hit (d : Df) (pre post : List ByteArray) (n : ByteArray) (e : usedL d = pre ++ n :: post) (hf : ∀ s ∈ pre, lexOf d.prods s ≠ 0) (hn : inB n (sortsL d.prods) = false) : undefL d = (43, n) := by
  unfold undefL
  refine firstL_split 43 _ _ pre post n e (fun s hs => decide_eq_false (hf s hs)) ?_
  rw [inB_lex] at hn
  simpa using hn
theorem undef_none (d : Df) (hf : ∀ s ∈ usedL d, lexOf d.prods s ≠ 0) : undefL d = okL := by
  unfold undefL
  exact firstL_miss 43 _ _ (fun j h => decide_eq_false (hf _ (List.getElem_mem h)))
theorem lex_of_in {l : List Pd} {s : ByteArray} (h : inB s (sortsL l) = true) : lexOf l s ≠ 0 := by
  rw [inB_lex] at h
  simpa using h
set_option maxHeartbeats 1600000 in
set_option maxRecDepth 100000 in
theorem undefined_any (d : Df) (a2 : Option Addr) (c2 : Nat) (a3 : Option Addr) (c3 : Nat) (a4 : Option Addr) (c4 : Nat) (a5 : Option Addr) (c5 : Nat) (a6 : Option Addr) (c6 : Nat) (w : World) (hd : RD d ⟨a2, c2, a3, c3, a4, c4, a5, c5, a6, c6⟩ w) (hln : d.prods.length ≤ 100000) : Calls Try.prog 77 #[.agg #[.string d.start, .string d.layout, .slice a2 d.prods.length c2, .slice a3 d.chains.length c3, .slice a4 d.follows.length c4, .slice a5 d.rejects.length c5, .slice a6 d.boxes.length c6]] w fun e w' => e = .returned (toldV (undefL d)) ∧ Below w.heap.size w w' := by
  have HLN := hide hln
  have hl2 := hd.p.1
  have hl4 := hd.f.1
  have hl5 := hd.j.1
  clear hln
  have HD := hide hd
  obtain ⟨res, hres⟩ : ∃ r, toldV (undefL d) = r := ⟨_, rfl⟩
  rw [hres]
  have HRES := hide hres
  clear hres hd
  go_enter Try.func77, Try.ntmps77
  go_upto_region 1 with fail
  obtain ⟨kx, hkx⟩ : ∃ kx, w.heap.size = kx := ⟨_, rfl⟩
  obtain ⟨w1, h1⟩ : ∃ w1, w.alloc (.cells #[.string d.start, .string d.layout, .slice a2 d.prods.length c2, .slice a3 d.chains.length c3, .slice a4 d.follows.length c4, .slice a5 d.rejects.length c5, .slice a6 d.boxes.length c6] 28) = w1 := ⟨_, rfl⟩
  have HB0 := hide (show Below w.heap.size w w1 by rw [← h1]; exact NB.alloc (Below.refl _ _) _)
  have HX0 := hide (show Blk w1 kx #[.string d.start, .string d.layout, .slice a2 d.prods.length c2, .slice a3 d.chains.length c3, .slice a4 d.follows.length c4, .slice a5 d.rejects.length c5, .slice a6 d.boxes.length c6] 28 by rw [← h1, ← hkx]; exact Blk.new w _ _)
  replace HD := hide (HD.out.below HB0.out)
  rw [h1, hkx]
  clear h1 hkx
  have x0 := HX0.out.cell 0
  have x1 := HX0.out.cell 1
  have x2 := HX0.out.cell 2
  have x3 := HX0.out.cell 3
  have x4 := HX0.out.cell 4
  have x5 := HX0.out.cell 5
  have x6 := HX0.out.cell 6
  have xl := HX0.out.lt
  have HSO := hide (rSorts_any d a2 c2 a3 c3 a4 c4 a5 c5 a6 c6 w1 HD.out HLN.out)
  go_wp2_with fail
  refine HSO.out.mono ?_
  rintro e w2 ⟨v2, rfl, ho2, hb2⟩
  have hsl2 := sortsL_len d.prods
  have hln := HLN.out
  obtain ⟨a8, c8, rfl, hr8⟩ := ho2.row (by omega)
  have HR8 := hide hr8
  have HBN := hide (below_next HB0.out hb2)
  have HX2 := hide (HX0.out.below hb2)
  replace HD := hide (HD.out.below hb2)
  clear ho2 hr8 hb2 x0 x1 x2 x3 x4 x5 x6 xl HX0
  have x2 := HX2.out.cell 2
  have x4 := HX2.out.cell 4
  have x5 := HX2.out.cell 5
  have xl := HX2.out.lt
  go_wp2_with fail
  obtain ⟨w9, rfl⟩ : ∃ w9 : World, w9 = w2 := ⟨_, rfl⟩
  go_loopg [5] d.prods.length (fun u v5 wr => ∃ k : Nat, Hid (u = d.prods.length - k) ∧ v5 = .int .i64 (k : Int) ∧ Hid (k ≤ d.prods.length ∧ w9 = wr ∧ (∀ s ∈ used1 d k, lexOf d.prods s ≠ 0)))
  case atStart => exact ⟨0, hide rfl, rfl, hide ⟨Nat.zero_le _, rfl, fun s hs => by unfold used1 at hs; simp at hs⟩⟩
  case round =>
    obtain ⟨k, hu, rfl, hh⟩ := hrel
    have hkl := hh.out.1
    obtain rfl := hh.out.2.1
    by_cases hlt : k < d.prods.length
    · have hlti : (k : Int) < (d.prods.length : Int) := by omega
      obtain ⟨b, o, rfl, hb, hat⟩ := HD.out.p.get hlt
      have hx := hat k hlt
      have HUP := hide (used_p d k)
      have HUN := hide (used1_snoc d k hlt)
      have HPK := hide (show ∃ p, d.prods[k] = p ∧ PdAt p b (o + k * 5) w9 from ⟨_, rfl, hx⟩)
      obtain ⟨p, hp, hx⟩ := HPK.out
      replace HUP := hide (show ∀ j (hj : j < p.syms.length), emp (p.syms[j]).name = false → ∃ post, usedL d = (used1 d k ++ namesOf (p.syms.take j)) ++ (p.syms[j]).name :: post from fun j hj he => by
        subst hp; exact HUP.out j hlt hj he)
      rw [hp] at HUN
      have HU1 := hide hh.out.2.2
      clear hat HPK hp hh
      obtain ⟨ap, cp, ⟨e0, e1, e2, e3, e4⟩, hrow⟩ := hx.cells
      have HRW := hide hrow
      have hpl := hrow.1
      clear hx hrow e0 e1 e2 e3
      go_wp2_with fail
      go_loopg [6, 7] p.syms.length (fun u v6 v7 wr => ∃ j : Nat, Hid (u = p.syms.length - j) ∧ v6 = .int .i64 (j : Int) ∧ Hid (j ≤ p.syms.length ∧ w9 = wr ∧ (∀ s ∈ used1 d k ++ namesOf (p.syms.take j), lexOf d.prods s ≠ 0)))
      case atStart => exact ⟨0, hide rfl, rfl, hide ⟨Nat.zero_le _, rfl, fun s hs => HU1.out s (by unfold namesOf at hs; simpa using hs)⟩⟩
      case round =>
        obtain ⟨j, hv, rfl, hq⟩ := hrel
        have hjl := hq.out.1
        obtain rfl := hq.out.2.1
        by_cases hltj : j < p.syms.length
        · have hltji : (j : Int) < (p.syms.length : Int) := by omega
          obtain ⟨b2, o2, rfl, hb2, hat2⟩ := HRW.out.get hltj
          have hx2 := hat2 j hltj
          have HHI := hide (fun he hn => undef_hit d _ _ _ (HUP.out j hltj he).choose_spec hq.out.2.2 hn)
          have HNX := hide (show (∀ n, (if emp (p.syms[j]).name = true then [] else [(p.syms[j]).name]) = n → (∀ s ∈ n, lexOf d.prods s ≠ 0) → ∀ s ∈ used1 d k ++ namesOf (p.syms.take (j + 1)), lexOf d.prods s ≠ 0) from fun n hn hs s hm => by
            rw [take_snoc p.syms j hltj, namesOf_snoc2, hn, ← List.append_assoc] at hm
            rcases List.mem_append.1 hm with h | h
            · exact hq.out.2.2 s h
            · exact hs s h)
          generalize p.syms[j] = y at hx2 HHI HNX
          clear hat2 hq
          obtain ⟨kd, t, st, nm, sp⟩ := y
          obtain ⟨f0, f1, f2, f3, f4, f5, f6, f7⟩ := hx2.cells
          clear hx2 f0 f1 f2 f3 f4 f5 f7
          rcases emp_or nm with ⟨bn, zn, yn, vn, xn⟩ | ⟨bn, zn, yn, vn, xn⟩
          · have hne : (nm.toList == []) = true := by rw [xn]; rfl
            have hne2 : (!nm.toList == []) = false := by rw [hne]; rfl
            have HN := hide (HNX.out _ rfl (fun s hs => by rw [show (if emp nm = true then ([] : List ByteArray) else [nm]) = [] from if_pos zn.out] at hs; cases hs))
            go_wp2_with fail
            go_roundg (p.syms.length - (j + 1))
            case measure => rw [hv.out]; omega
            case rel => exact ⟨j + 1, hide rfl, by go_num, hide ⟨hltj, rfl, HN.out⟩⟩
          have hne : (nm.toList == []) = false := beq_eq_false_iff_ne.2 xn
          have hne2 : (!nm.toList == []) = true := by rw [hne]; rfl
          have HIN := hide (rIn_any (sortsL d.prods) nm a8 c8 w9 HR8.out)
          cases hin : inB nm (sortsL d.prods) with
          | true =>
            rw [hin] at HIN
            have HN := hide (HNX.out _ rfl (fun s hs => by
              rw [show (if emp nm = true then ([] : List ByteArray) else [nm]) = [nm] from if_neg (by rw [zn.out]; decide)] at hs
              simp at hs; rw [hs]; exact lex_of_in hin))
            clear hin
            go_wp2_with fail
            refine HIN.out.mono ?_
            rintro e w7 ⟨rfl, rfl⟩
            go_wp2_with fail
            go_roundg (p.syms.length - (j + 1))
            case measure => rw [hv.out]; omega
            case rel => exact ⟨j + 1, hide rfl, by go_num, hide ⟨hltj, rfl, HN.out⟩⟩
          | false =>
            rw [hin] at HIN
            have HF := hide (show res = toldV (43, nm) by rw [← HRES.out, HHI.out zn.out hin])
            clear hin
            go_wp2_with fail
            refine HIN.out.mono ?_
            rintro e w7 ⟨rfl, rfl⟩
            go_wp2_with fail
            go_ret2
            exact ⟨by rw [HF.out]; rfl, HBN.out⟩
        · have hltji : ¬ (j : Int) < (p.syms.length : Int) := by omega
          have HN := hide (show ∀ s ∈ used1 d (k + 1), lexOf d.prods s ≠ 0 from fun s hs => hq.out.2.2 s (by
            rw [HUN.out] at hs
            rw [List.take_of_length_le (by omega)]
            exact hs))
          clear hq
          go_wp2_with fail
          go_roundg (d.prods.length - (k + 1))
          case measure => rw [hu.out]; omega
          case rel => exact ⟨k + 1, hide rfl, by go_num, hide ⟨hlt, rfl, HN.out⟩⟩
    · have hlti : ¬ (k : Int) < (d.prods.length : Int) := by omega
      have HU2 := hide (show ∀ s ∈ used2 d 0, lexOf d.prods s ≠ 0 by rw [← used1_end d k (by omega)]; exact hh.out.2.2)
      clear hh hu hkl hlt
      go_wp2_with fail
      go_loopg [8] d.follows.length (fun u v8 wr => ∃ k : Nat, Hid (u = d.follows.length - k) ∧ v8 = .int .i64 (k : Int) ∧ Hid (k ≤ d.follows.length ∧ w9 = wr ∧ (∀ s ∈ used2 d k, lexOf d.prods s ≠ 0)))
      case atStart => exact ⟨0, hide rfl, rfl, hide ⟨Nat.zero_le _, rfl, HU2.out⟩⟩
      case round =>
        obtain ⟨k, hu, rfl, hh⟩ := hrel
        have hkl := hh.out.1
        obtain rfl := hh.out.2.1
        by_cases hlt : k < d.follows.length
        · have hlti : (k : Int) < (d.follows.length : Int) := by omega
          obtain ⟨b, o, rfl, hb, hat⟩ := HD.out.f.get hlt
          have hx := hat k hlt
          have HHI := hide (fun hn => undef_hit d _ _ _ (used_f d k hlt).choose_spec hh.out.2.2 hn)
          have HNX := hide (show inB (d.follows[k]).sort (sortsL d.prods) = true → ∀ s ∈ used2 d (k + 1), lexOf d.prods s ≠ 0 from fun hn s hs => by
            rw [used2_snoc d k hlt] at hs
            rcases List.mem_append.1 hs with h | h
            · exact hh.out.2.2 s h
            · simp at h; rw [h]; exact lex_of_in hn)
          generalize d.follows[k] = x at hx HHI HNX
          clear hat hh
          obtain ⟨so, st⟩ := x
          obtain ⟨e0, e1, e2, e3, e4⟩ := hx.cells
          clear hx e1 e2 e3 e4
          have HIN := hide (rIn_any (sortsL d.prods) so a8 c8 w9 HR8.out)
          cases hin : inB so (sortsL d.prods) with
          | true =>
            rw [hin] at HIN
            have HN := hide (HNX.out hin)
            clear hin
            go_wp2_with fail
            refine HIN.out.mono ?_
            rintro e w7 ⟨rfl, rfl⟩
            go_wp2_with fail
            go_roundg (d.follows.length - (k + 1))
            case measure => rw [hu.out]; omega
            case rel => exact ⟨k + 1, hide rfl, by go_num, hide ⟨hlt, rfl, HN.out⟩⟩
          | false =>
            rw [hin] at HIN
            have HF := hide (show res = toldV (43, so) by rw [← HRES.out, HHI.out hin])
            clear hin
            go_wp2_with fail
            refine HIN.out.mono ?_
            rintro e w7 ⟨rfl, rfl⟩
            go_wp2_with fail
            go_ret2
            exact ⟨by rw [HF.out]; rfl, HBN.out⟩
        · have hlti : ¬ (k : Int) < (d.follows.length : Int) := by omega
          have HU3 := hide (show ∀ s ∈ used3 d 0, lexOf d.prods s ≠ 0 by rw [← used2_end d k (by omega)]; exact hh.out.2.2)
          clear hh hu hkl hlt
          go_wp2_with fail
          go_loopg [9] d.rejects.length (fun u v9 wr => ∃ k : Nat, Hid (u = d.rejects.length - k) ∧ v9 = .int .i64 (k : Int) ∧ Hid (k ≤ d.rejects.length ∧ w9 = wr ∧ (∀ s ∈ used3 d k, lexOf d.prods s ≠ 0)))
          case atStart => exact ⟨0, hide rfl, rfl, hide ⟨Nat.zero_le _, rfl, HU3.out⟩⟩
          case round =>
            obtain ⟨k, hu, rfl, hh⟩ := hrel
            have hkl := hh.out.1
            obtain rfl := hh.out.2.1
            by_cases hlt : k < d.rejects.length
            · have hlti : (k : Int) < (d.rejects.length : Int) := by omega
              obtain ⟨b, o, rfl, hb, hat⟩ := HD.out.j.get hlt
              have hx := hat k hlt
              have HHI := hide (fun hn => undef_hit d _ _ _ (used_r d k hlt).choose_spec hh.out.2.2 hn)
              have HHI2 := hide (show inB (d.rejects[k]).sort (sortsL d.prods) = true → inB (d.rejects[k]).by_ (sortsL d.prods) = false → undefL d = (43, (d.rejects[k]).by_) from fun h1 hn => by
                obtain ⟨post, hp⟩ := used_r d k hlt
                refine undef_hit d (used3 d k ++ [(d.rejects[k]).sort]) post _ (by rw [hp]; simp) (fun s hs => ?_) hn
                rcases List.mem_append.1 hs with h | h
                · exact hh.out.2.2 s h
                · simp at h; rw [h]; exact lex_of_in h1)
              have HNX := hide (show inB (d.rejects[k]).sort (sortsL d.prods) = true → inB (d.rejects[k]).by_ (sortsL d.prods) = true → ∀ s ∈ used3 d (k + 1), lexOf d.prods s ≠ 0 from fun h1 h2 s hs => by
                rw [used3_snoc d k hlt] at hs
                rcases List.mem_append.1 hs with h | h
                · exact hh.out.2.2 s h
                · simp [rejN] at h
                  rcases h with h | h
                  · rw [h]; exact lex_of_in h1
                  · rw [h]; exact lex_of_in h2)
              generalize d.rejects[k] = x at hx HHI HHI2 HNX
              clear hat hh
              obtain ⟨so, by_⟩ := x
              obtain ⟨e0, e1⟩ := hx.cells
              clear hx
              have HIN := hide (rIn_any (sortsL d.prods) so a8 c8 w9 HR8.out)
              have HI2 := hide (rIn_any (sortsL d.prods) by_ a8 c8 w9 HR8.out)
              cases hin : inB so (sortsL d.prods) with
              | true =>
                rw [hin] at HIN
                have HS1 := hide hin
                clear hin
                go_wp2_with fail
                refine HIN.out.mono ?_
                rintro e w7 ⟨rfl, rfl⟩
                go_wp2_with fail
                cases hin : inB by_ (sortsL d.prods) with
                | true =>
                  rw [hin] at HI2
                  have HN := hide (HNX.out HS1.out hin)
                  clear hin
                  refine HI2.out.mono ?_
                  rintro e w7 ⟨rfl, rfl⟩
                  go_wp2_with fail
                  go_roundg (d.rejects.length - (k + 1))
                  case measure => rw [hu.out]; omega
                  case rel => exact ⟨k + 1, hide rfl, by go_num, hide ⟨hlt, rfl, HN.out⟩⟩
                | false =>
                  rw [hin] at HI2
                  have HF := hide (show res = toldV (43, by_) by rw [← HRES.out, HHI2.out HS1.out hin])
                  clear hin
                  refine HI2.out.mono ?_
                  rintro e w7 ⟨rfl, rfl⟩
                  go_wp2_with fail
                  go_ret2
                  exact ⟨by rw [HF.out]; rfl, HBN.out⟩
              | false =>
                rw [hin] at HIN
                have HF := hide (show res = toldV (43, so) by rw [← HRES.out, HHI.out hin])
                clear hin
                go_wp2_with fail
                refine HIN.out.mono ?_
                rintro e w7 ⟨rfl, rfl⟩
                go_wp2_with fail
                go_ret2
                exact ⟨by rw [HF.out]; rfl, HBN.out⟩
            · have hlti : ¬ (k : Int) < (d.rejects.length : Int) := by omega
              have HF := hide (show res = toldV okL by rw [← HRES.out, undef_none d (by rw [← used3_end d k (by omega)]; exact hh.out.2.2)])
              go_wp2_with fail
              go_ret2
              exact ⟨by rw [HF.out]; rfl, HBN.out⟩
end Go.Proofs.Ytalicfpcmcbdbaa
