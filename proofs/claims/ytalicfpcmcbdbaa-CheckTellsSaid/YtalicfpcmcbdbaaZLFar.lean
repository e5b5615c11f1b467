/- The walk of CheckFar. -/
import Derived.Test.YtalicfpcmcbdbaaZInL
import Derived.Test.YtalicfpcmcbdbaaZParts
import Derived.Deep.RegionHeld3
import Derived.StillTailTactics
set_option linter.unusedVariables false
set_option linter.unusedSimpArgs false
set_option linter.unnecessarySimpa false
set_option linter.deprecated false
namespace Go.Proofs.Ytalicfpcmcbdbaa
open Go.RowKit

theorem Reach.trans {ps : List Pd} {stp : Pd → List ByteArray} {a b c : ByteArray} (h : Reach ps stp a b) (h2 : Reach ps stp b c) : Reach ps stp a c := by
  induction h2 with
  | one hp hs hn => exact .more h hp hs hn
  | more _ hp hs hn ih => exact .more ih hp hs hn
open Classical in
theorem usesL_mem {d : Df} {s t : ByteArray} : t ∈ usesL d s ↔ t ∈ sortsL d.prods ∧ Reach d.prods namesL s t := by
  unfold usesL; rw [List.mem_filter, decide_eq_true_iff]
theorem usesL_len (d : Df) (s : ByteArray) : (usesL d s).length ≤ d.prods.length := by
  unfold usesL
  exact Nat.le_trans (List.length_filter_le _ _) (sortsL_len d.prods)
theorem namesL_mem {p : Pd} {k : Nat} (hk : k < p.syms.length) (he : emp p.syms[k].name = false) : p.syms[k].name ∈ namesL p := by
  unfold namesL namesOf
  exact List.mem_map.2 ⟨_, List.mem_filter.2 ⟨List.getElem_mem hk, by rw [he]; rfl⟩, rfl⟩
set_option maxHeartbeats 800000 in
set_option maxRecDepth 100000 in
theorem lawFar_any (d : Df) (a2 : Option Addr) (c2 : Nat) (a3 : Option Addr) (c3 : Nat) (a4 : Option Addr) (c4 : Nat) (a5 : Option Addr) (c5 : Nat) (a6 : Option Addr) (c6 : Nat) (s : ByteArray) (w : World) (hd : RD d ⟨a2, c2, a3, c3, a4, c4, a5, c5, a6, c6⟩ w) (hs : s.size ≤ 140737488351232) : Calls Try.prog 8 #[.agg #[.string d.start, .string d.layout, .slice a2 d.prods.length c2, .slice a3 d.chains.length c3, .slice a4 d.follows.length c4, .slice a5 d.rejects.length c5, .slice a6 d.boxes.length c6], .string s] w fun e w' => e = .returned (.bool true) ∧ Below w.heap.size w w' := by
  have HSS := hide (show short s from hs)
  clear hs
  have HB0 := hide ((Below.refl w.heap.size w).alloc (Nat.le_refl _) (.cells #[.string d.start, .string d.layout, .slice a2 d.prods.length c2, .slice a3 d.chains.length c3, .slice a4 d.follows.length c4, .slice a5 d.rejects.length c5, .slice a6 d.boxes.length c6] 28))
  have HX0 := hide (Blk.new w #[.string d.start, .string d.layout, .slice a2 d.prods.length c2, .slice a3 d.chains.length c3, .slice a4 d.follows.length c4, .slice a5 d.rejects.length c5, .slice a6 d.boxes.length c6] 28)
  have HD := hide (hd.below HB0.out)
  have hl2 := hd.p.1
  clear hd
  go_enter Try.func8, Try.ntmps8
  go_upto_region 1 with fail
  obtain ⟨kx, hkx⟩ : ∃ kx, w.heap.size = kx := ⟨_, rfl⟩
  obtain ⟨w0, h1⟩ : ∃ w1, w.alloc (.cells #[.string d.start, .string d.layout, .slice a2 d.prods.length c2, .slice a3 d.chains.length c3, .slice a4 d.follows.length c4, .slice a5 d.rejects.length c5, .slice a6 d.boxes.length c6] 28) = w1 := ⟨_, rfl⟩
  rw [h1] at HD HB0 HX0 ⊢
  rw [hkx] at HX0 ⊢
  clear h1 hkx
  have x0 := HX0.out.cell 0
  have x1 := HX0.out.cell 1
  have x2 := HX0.out.cell 2
  have x3 := HX0.out.cell 3
  have x4 := HX0.out.cell 4
  have x5 := HX0.out.cell 5
  have x6 := HX0.out.cell 6
  have xl := HX0.out.lt
  have HHV := hide (heavy_any d a2 c2 a3 c3 a4 c4 a5 c5 a6 c6 w0 HD.out)
  go_wp2_with fail
  refine HHV.out.mono ?_
  rintro e w1 ⟨⟨hv, rfl, hsm⟩, hb1⟩
  have HB1 := hide (below_next HB0.out hb1)
  have HX1 := hide (HX0.out.below hb1)
  have HD1 := hide (HD.out.below hb1)
  clear HX0 HD HHV HB0 hb1 x0 x1 x2 x3 x4 x5 x6 xl
  clear w0
  cases hv with
  | true =>
    have HC := hide (alive_any w1)
    clear hsm
    go_wp2_with fail
    refine HC.out.mono ?_
    rintro e w2 ⟨rfl, hb2⟩
    have HB2 := hide (below_next HB1.out hb2)
    clear hb2
    go_wp2_with fail
    go_ret
    exact ⟨rfl, HB2.out⟩
  | false =>
    have HSM := hide (tot_small (hsm rfl))
    clear hsm
    go_upto_region 3 with fail
    have HS := hide (fun (W : World) (h : Below w1.heap.size w1 W) => (show (Hid (Below w1.heap.size w1 W) ∧ kx < W.heap.size ∧ W.cell? ⟨kx, 0, none⟩ = some (.string d.start) ∧ W.cell? ⟨kx, 1, none⟩ = some (.string d.layout) ∧ W.cell? ⟨kx, 2, none⟩ = some (.slice a2 d.prods.length c2) ∧ W.cell? ⟨kx, 3, none⟩ = some (.slice a3 d.chains.length c3) ∧ W.cell? ⟨kx, 4, none⟩ = some (.slice a4 d.follows.length c4) ∧ W.cell? ⟨kx, 5, none⟩ = some (.slice a5 d.rejects.length c5) ∧ W.cell? ⟨kx, 6, none⟩ = some (.slice a6 d.boxes.length c6)) from
      have q := HX1.out.below h
      ⟨hide h, q.lt, q.cell 0, q.cell 1, q.cell 2, q.cell 3, q.cell 4, q.cell 5, q.cell 6⟩))
    have HSO := hide (fun (W : World) (h : Hid (Below w1.heap.size w1 W)) => (show Calls Try.prog 22 #[.agg #[.string d.start, .string d.layout, .slice a2 d.prods.length c2, .slice a3 d.chains.length c3, .slice a4 d.follows.length c4, .slice a5 d.rejects.length c5, .slice a6 d.boxes.length c6]] W fun e W' => ∃ a c, e = .returned (.slice a (sortsL d.prods).length c) ∧ Hid (Row StrAt 1 (sortsL d.prods) a W' ∧ Below W.heap.size W W') ∧ (fun W => (Hid (Below w1.heap.size w1 W) ∧ kx < W.heap.size ∧ W.cell? ⟨kx, 0, none⟩ = some (.string d.start) ∧ W.cell? ⟨kx, 1, none⟩ = some (.string d.layout) ∧ W.cell? ⟨kx, 2, none⟩ = some (.slice a2 d.prods.length c2) ∧ W.cell? ⟨kx, 3, none⟩ = some (.slice a3 d.chains.length c3) ∧ W.cell? ⟨kx, 4, none⟩ = some (.slice a4 d.follows.length c4) ∧ W.cell? ⟨kx, 5, none⟩ = some (.slice a5 d.rejects.length c5) ∧ W.cell? ⟨kx, 6, none⟩ = some (.slice a6 d.boxes.length c6))) W' from (sorts_any d a2 c2 a3 c3 a4 c4 a5 c5 a6 c6 W (HD1.out.below h.out) HSM.out.pl5).mono (fun e W' hh => by
      obtain ⟨v, rfl, ho, hb⟩ := hh
      obtain ⟨a, c, rfl, hr⟩ := ho.row (by have := sortsL_len d.prods; omega)
      exact ⟨a, c, rfl, hide ⟨hr, hb⟩, HS.out W' (below_next h.out hb)⟩)))
    have HUS := hide (fun (s : ByteArray) (hs : short s) (W : World) (h : Hid (Below w1.heap.size w1 W)) => (show Calls Try.prog 23 #[.agg #[.string d.start, .string d.layout, .slice a2 d.prods.length c2, .slice a3 d.chains.length c3, .slice a4 d.follows.length c4, .slice a5 d.rejects.length c5, .slice a6 d.boxes.length c6], .string s] W fun e W' => ∃ a c, e = .returned (.slice a (usesL d s).length c) ∧ Hid (Row StrAt 1 (usesL d s) a W' ∧ Below W.heap.size W W') ∧ (fun W => (Hid (Below w1.heap.size w1 W) ∧ kx < W.heap.size ∧ W.cell? ⟨kx, 0, none⟩ = some (.string d.start) ∧ W.cell? ⟨kx, 1, none⟩ = some (.string d.layout) ∧ W.cell? ⟨kx, 2, none⟩ = some (.slice a2 d.prods.length c2) ∧ W.cell? ⟨kx, 3, none⟩ = some (.slice a3 d.chains.length c3) ∧ W.cell? ⟨kx, 4, none⟩ = some (.slice a4 d.follows.length c4) ∧ W.cell? ⟨kx, 5, none⟩ = some (.slice a5 d.rejects.length c5) ∧ W.cell? ⟨kx, 6, none⟩ = some (.slice a6 d.boxes.length c6))) W' from (uses_any d a2 c2 a3 c3 a4 c4 a5 c5 a6 c6 s W (HD1.out.below h.out) hs HSM.out.pl5 HSM.out.nl HSM.out.sl5).mono (fun e W' hh => by
      obtain ⟨v, rfl, ho, hb⟩ := hh
      obtain ⟨a, c, rfl, hr⟩ := ho.row (by have := usesL_len d s; omega)
      exact ⟨a, c, rfl, hide ⟨hr, hb⟩, HS.out W' (below_next h.out hb)⟩)))
    have hs0 := HS.out _ (Below.drew (Below.refl w1.heap.size w1))
    go_region_held3 (fun W => (Hid (Below w1.heap.size w1 W) ∧ kx < W.heap.size ∧ W.cell? ⟨kx, 0, none⟩ = some (.string d.start) ∧ W.cell? ⟨kx, 1, none⟩ = some (.string d.layout) ∧ W.cell? ⟨kx, 2, none⟩ = some (.slice a2 d.prods.length c2) ∧ W.cell? ⟨kx, 3, none⟩ = some (.slice a3 d.chains.length c3) ∧ W.cell? ⟨kx, 4, none⟩ = some (.slice a4 d.follows.length c4) ∧ W.cell? ⟨kx, 5, none⟩ = some (.slice a5 d.rejects.length c5) ∧ W.cell? ⟨kx, 6, none⟩ = some (.slice a6 d.boxes.length c6))) (first | exact hs0 | assumption)
      (first
        | (go_at_call 22; refine (HSO.out _ (And.left (by assumption))).mono ?_; rintro e w3 ⟨a7, c7, rfl, hr3, hs3⟩)
        | (go_at_call 23; refine (HUS.out s HSS.out _ (And.left (by assumption))).mono ?_; rintro e w4 ⟨a8, c8, rfl, hr4, hs4⟩))
    have HR7 := hide (hr3.out.1.below StrAt.stable hr4.out.2)
    have HR8 := hide hr4.out.1
    have HS4 := hide hs4
    have hl7 := hr3.out.1.1
    have hl8 := hr4.out.1.1
    clear hs0 hr3 hr4 hs3 hs4
    go_upto_block 0 with fail
    go_cut [7, 8, 9] from 21 to 45 (fun v7 v8 v9 wc => Hid (Below w4.heap.size w4 wc))
    case first =>
      go_wp2_with fail
      go_loopg [7, 8, 9] (usesL d s).length (fun u v7 v8 v9 wr => ∃ k : Nat, Hid (u = (usesL d s).length - k) ∧ v7 = .int .i64 (k : Int) ∧ Hid (k ≤ (usesL d s).length ∧ Below w4.heap.size w4 wr))
      case atStart => exact ⟨0, hide rfl, rfl, hide ⟨Nat.zero_le _, Below.refl _ _⟩⟩
      case round =>
        obtain ⟨k, hu, rfl, hh⟩ := hrel
        have hkl := hh.out.1
        by_cases hlt : k < (usesL d s).length
        · have hlti : (k : Int) < ((usesL d s).length : Int) := by omega
          obtain ⟨b, o, rfl, hb, hat⟩ := (HR8.out.below StrAt.stable hh.out.2).get hlt
          have hx := hat k hlt
          rw [Nat.mul_one] at hx
          have HTM := hide (List.getElem_mem hlt)
          generalize (usesL d s)[k] = t at hx HTM
          clear hat
          obtain ⟨hsh, f0⟩ := hx
          have HSH := hide hsh
          obtain ⟨z1, zl, z⟩ := HS.out wr (below_next HS4.out.1.out hh.out.2)
          obtain ⟨q0, q1, q2, q3, q4, q5, q6⟩ := z
          go_upto_region 7 with fail
          go_still_tail 5, (by kernel_rfl)
          change wpList _ _ _ _ _ wr.drew
          have HUW := hide (HUS.out t HSH.out wr.drew (hide (below_next HS4.out.1.out (hh.out.2.drew))))
          clear hsh
          go_wp2_with fail
          refine HUW.out.mono ?_
          rintro e w5 ⟨a9, c9, rfl, hr9, hs9⟩
          have HR9 := hide hr9.out.1
          have HB9 := hide (show Below w4.heap.size w4 w5 from below_next hh.out.2.drew hr9.out.2)
          have hl9 := hr9.out.1.1
          clear hr9 hs9 q0 q1 q2 q3 q4 q5 q6 z1 zl f0 hb
          go_wp2_with fail
          go_loopg [9] (usesL d t).length (fun u v9 wq => ∃ j : Nat, Hid (u = (usesL d t).length - j) ∧ v9 = .int .i64 (j : Int) ∧ Hid (j ≤ (usesL d t).length ∧ w5 = wq))
          case atStart => exact ⟨0, hide rfl, rfl, hide ⟨Nat.zero_le _, rfl⟩⟩
          case round =>
            obtain ⟨j, hv, rfl, hq⟩ := hrel
            have hjl := hq.out.1
            obtain rfl := hq.out.2
            by_cases hltj : j < (usesL d t).length
            · have hltji : (j : Int) < ((usesL d t).length : Int) := by omega
              obtain ⟨b2, o2, rfl, hb2, hat⟩ := HR9.out.get hltj
              have hx := hat j hltj
              rw [Nat.mul_one] at hx
              have hrm := usesL_mem.1 (List.getElem_mem hltj)
              generalize (usesL d t)[j] = r at hx hrm
              clear hat
              obtain ⟨hsh, f0⟩ := hx
              have hin : inB r (usesL d s) = true := (inB_iff _ _).2 (usesL_mem.2 ⟨hrm.1, (usesL_mem.1 HTM.out).2.trans hrm.2⟩)
              have HIN := hide (in_any (usesL d s) r _ c8 w5 (HR8.out.below StrAt.stable HB9.out))
              rw [hin] at HIN
              clear hin hrm hsh
              go_wp2_with fail
              refine HIN.out.mono ?_
              rintro e w6 ⟨rfl, rfl⟩
              go_wp2_with fail
              go_roundg ((usesL d t).length - (j + 1))
              case measure => rw [hv.out]; omega
              case rel => exact ⟨j + 1, hide rfl, by go_num, hide ⟨hltj, rfl⟩⟩
            · have hltji : ¬ (j : Int) < ((usesL d t).length : Int) := by omega
              go_wp2_with fail
              go_roundg ((usesL d s).length - (k + 1))
              case measure => rw [hu.out]; omega
              case rel => exact ⟨k + 1, hide rfl, by go_num, hide ⟨hlt, HB9.out⟩⟩
        · have hlti : ¬ (k : Int) < ((usesL d s).length : Int) := by omega
          go_wp2_with fail
          go_meet
          exact hide hh.out.2
    case rest =>
      have HC := hide hcut.out
      clear hcut
      go_wp2_with fail
      go_loopg [10, 11, 12] d.prods.length (fun u v10 v11 v12 wr => ∃ k : Nat, Hid (u = d.prods.length - k) ∧ v10 = .int .i64 (k : Int) ∧ Hid (k ≤ d.prods.length ∧ wc = wr))
      case atStart => exact ⟨0, hide rfl, rfl, hide ⟨Nat.zero_le _, rfl⟩⟩
      case round =>
        obtain ⟨k, hu, rfl, hh⟩ := hrel
        have hkl := hh.out.1
        obtain rfl := hh.out.2
        obtain ⟨z1, zl, q0, q1, q2, q3, q4, q5, q6⟩ := HS.out wc (below_next HS4.out.1.out HC.out)
        by_cases hlt : k < d.prods.length
        · have hlti : (k : Int) < (d.prods.length : Int) := by omega
          obtain ⟨b, o, rfl, hb, hat⟩ := (HD1.out.below z1.out).p.get hlt
          have hx := hat k hlt
          have HPM := hide (List.getElem_mem hlt)
          generalize d.prods[k] = p at hx HPM
          clear hat
          obtain ⟨ap, cp, ⟨e0, e1, e2, e3, e4⟩, hrow⟩ := hx.cells
          have HROW := hide hrow
          have hsl := hrow.1
          clear hx hrow
          go_wp2_with fail
          go_loopg [11, 12] p.syms.length (fun u v11 v12 wq => ∃ j : Nat, Hid (u = p.syms.length - j) ∧ v11 = .int .i64 (j : Int) ∧ Hid (j ≤ p.syms.length ∧ wc = wq))
          case atStart => exact ⟨0, hide rfl, rfl, hide ⟨Nat.zero_le _, rfl⟩⟩
          case round =>
            obtain ⟨j, hv, rfl, hq⟩ := hrel
            have hjl := hq.out.1
            obtain rfl := hq.out.2
            by_cases hltj : j < p.syms.length
            · have hltji : (j : Int) < (p.syms.length : Int) := by omega
              by_cases hso : p.sort = s
              · have h2 : p.sort.toList = s.toList := by rw [hso]
                have h1 : (p.sort.toList == s.toList) = true := by rw [hso]; simp
                obtain ⟨b2, o2, rfl, hb2, hat2⟩ := HROW.out.get hltj
                have hx := hat2 j hltj
                have HNM := hide (fun (he : emp p.syms[j].name = false) => namesL_mem hltj he)
                generalize p.syms[j] = y at hx HNM
                clear hat2
                obtain ⟨kd, t, st, nm, sp⟩ := y
                obtain ⟨f0, f1, f2, f3, f4, f5, f6, f7⟩ := hx.cells
                have hnm : short nm := hx.1.n
                clear hx f0 f1 f2 f3 f4 f5 f7
                have HRE := hide (fun (he : emp nm = false) => (show Reach d.prods namesL s nm from .one HPM.out hso (HNM.out he)))
                have HIN1 := hide (in_any (sortsL d.prods) nm _ c7 wc (HR7.out.below StrAt.stable HC.out))
                have HIN2 := hide (in_any (usesL d s) nm _ c8 wc (HR8.out.below StrAt.stable HC.out))
                clear hso
                rcases emp_or nm with ⟨bn, zn, yn, vn, xn⟩ | ⟨bn, zn, yn, vn, xn⟩
                · have hne : (nm.toList == []) = true := by rw [xn]; rfl
                  have hne2 : (!nm.toList == []) = false := by rw [hne]; rfl
                  go_wp2_with fail
                  go_roundg (p.syms.length - (j + 1))
                  case measure => rw [hv.out]; omega
                  case rel => exact ⟨j + 1, hide rfl, by go_num, hide ⟨hltj, rfl⟩⟩
                · have hne : (nm.toList == []) = false := beq_eq_false_iff_ne.2 xn
                  have hne2 : (!nm.toList == []) = true := by rw [hne]; rfl
                  cases hi1 : inB nm (sortsL d.prods) with
                  | false =>
                    rw [hi1] at HIN1
                    clear hi1
                    go_wp2_with (go_at_call 24; refine HIN1.out.mono ?_; rintro e w6 ⟨rfl, rfl⟩)
                    go_roundg (p.syms.length - (j + 1))
                    case measure => rw [hv.out]; omega
                    case rel => exact ⟨j + 1, hide rfl, by go_num, hide ⟨hltj, rfl⟩⟩
                  | true =>
                    have hi2 : inB nm (usesL d s) = true := (inB_iff _ _).2 (usesL_mem.2 ⟨(inB_iff _ _).1 hi1, HRE.out zn.out⟩)
                    rw [hi1] at HIN1
                    rw [hi2] at HIN2
                    clear hi1 hi2
                    go_wp2_with fail
                    refine HIN1.out.mono ?_
                    rintro e w6 ⟨rfl, rfl⟩
                    go_wp2_with fail
                    refine HIN2.out.mono ?_
                    rintro e w6 ⟨rfl, rfl⟩
                    go_wp2_with fail
                    go_roundg (p.syms.length - (j + 1))
                    case measure => rw [hv.out]; omega
                    case rel => exact ⟨j + 1, hide rfl, by go_num, hide ⟨hltj, rfl⟩⟩
              · have h2 : ¬ p.sort.toList = s.toList := fun h => hso ((toList_eq_iff _ _).1 h)
                have h1 : (p.sort.toList == s.toList) = false := beq_eq_false_iff_ne.2 h2
                go_wp2_with fail
                go_roundg (d.prods.length - (k + 1))
                case measure => rw [hu.out]; omega
                case rel => exact ⟨k + 1, hide rfl, by go_num, hide ⟨hlt, rfl⟩⟩
            · have hltji : ¬ (j : Int) < (p.syms.length : Int) := by omega
              go_wp2_with fail
              go_roundg (d.prods.length - (k + 1))
              case measure => rw [hu.out]; omega
              case rel => exact ⟨k + 1, hide rfl, by go_num, hide ⟨hlt, rfl⟩⟩
        · have hlti : ¬ (k : Int) < (d.prods.length : Int) := by omega
          have HAL := hide (alive_any wc)
          go_wp2_with fail
          refine HAL.out.mono ?_
          rintro e w7 ⟨rfl, hb7⟩
          go_wp2_with fail
          go_ret
          exact ⟨rfl, below_next HB1.out (below_next z1.out hb7)⟩
end Go.Proofs.Ytalicfpcmcbdbaa
