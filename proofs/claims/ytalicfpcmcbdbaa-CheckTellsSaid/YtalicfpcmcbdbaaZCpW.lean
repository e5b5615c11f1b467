/- The reference: the same items. The reference: the same productions. The reference: the same chains. The reference: Same. The walk of Copy. -/
import Derived.Test.YtalicfpcmcbdbaaZRgL
import Derived.Test.YtalicfpcmcbdbaaZCkP
import Derived.BigQuiet
import Derived.Test.YtalicfpcmcbdbaaZEqT
import Derived.Test.YtalicfpcmcbdbaaZCkS
import Derived.Test.YtalicfpcmcbdbaaZRefL
import Derived.Test.YtalicfpcmcbdbaaZParts
import Derived.StillTailTactics
import Derived.Deep.RegionHeld3
set_option linter.unusedVariables false
set_option linter.unusedSimpArgs false
set_option linter.unnecessarySimpa false
set_option linter.deprecated false
namespace Go.Proofs.Ytalicfpcmcbdbaa
open Go.RowKit

set_option maxHeartbeats 3200000 in
set_option maxRecDepth 100000 in
theorem sameItems_all : ∀ (N : Nat) (l : List It), SizeOf.sizeOf l < N → ∀ (a a2 : Option Addr) (c c2 : Nat) (w : World), Row ItAt 4 l a w → Row ItAt 4 l a2 w →
    Calls Try.prog 54 #[.slice a l.length c, .slice a2 l.length c2] w fun e w' => e = .returned (.bool true) ∧ Below w.heap.size w w' := by
  intro N
  induction N with
  | zero => intro l h; exact absurd h (Nat.not_lt_zero _)
  | succ N ih =>
    intro l hN a a2 c c2 w hr1 hr2
    have HR1 := hide hr1
    have HR2 := hide hr2
    have HSZ := hide hN
    have HIH := hide ih
    have hl := hr1.1
    clear hr1 hr2 hN ih
    go_enter Try.func54, Try.ntmps54
    go_wp2_with fail
    go_loopg [5] l.length (fun u v5 wr => ∃ k : Nat, Hid (u = l.length - k) ∧ v5 = .int .i64 (k : Int) ∧ Hid (k ≤ l.length ∧ Below w.heap.size w wr))
    case atStart => exact ⟨0, hide rfl, rfl, hide ⟨Nat.zero_le _, Below.refl _ _⟩⟩
    case round =>
      obtain ⟨k, hu, rfl, hh⟩ := hrel
      have hkl := hh.out.1
      have HBR := hide hh.out.2
      clear hh
      by_cases hlt : k < l.length
      · have hlti : (k : Int) < (l.length : Int) := by omega
        obtain ⟨b, o, rfl, hb, hat⟩ := (HR1.out.below ItAt.stable HBR.out).get hlt
        obtain ⟨b2, o2, rfl, hb2, hat2⟩ := (HR2.out.below ItAt.stable HBR.out).get hlt
        have hx := hat k hlt
        have hx2 := hat2 k hlt
        have HMS := hide (List.sizeOf_lt_of_mem (List.getElem_mem hlt))
        generalize l[k] = x at hx hx2 HMS
        clear hat hat2
        obtain ⟨hxi, ak, ck, hc1, hrk⟩ := hx.cells
        obtain ⟨_, ak2, ck2, hc2, hrk2⟩ := hx2.cells
        have HRC := hide (fun (W : World) (h : Below wr.heap.size wr W) => HIH.out x.kids (by
          have h5 := sizeOf_kids x
          have h1 := HMS.out
          have h2 := HSZ.out
          omega) ak ak2 ck ck2 W (hrk.below ItAt.stable h) (hrk2.below ItAt.stable h))
        have hkl5 := hrk.1
        clear hx hx2 hrk hrk2 HMS hxi
        obtain ⟨kd, t, nn, kids⟩ := x
        have HE := hide (show wr.cell? ⟨b, o + k * 4, none⟩ = some (.int .i64 kd) ∧ wr.cell? ⟨b, o + k * 4 + 1, none⟩ = some (.string t) ∧ wr.cell? ⟨b, o + k * 4 + 2, none⟩ = some (.int .i64 nn) ∧ wr.cell? ⟨b, o + k * 4 + 3, none⟩ = some (.slice ak kids.length ck) from hc1)
        have HF := hide (show wr.cell? ⟨b2, o2 + k * 4, none⟩ = some (.int .i64 kd) ∧ wr.cell? ⟨b2, o2 + k * 4 + 1, none⟩ = some (.string t) ∧ wr.cell? ⟨b2, o2 + k * 4 + 2, none⟩ = some (.int .i64 nn) ∧ wr.cell? ⟨b2, o2 + k * 4 + 3, none⟩ = some (.slice ak2 kids.length ck2) from hc2)
        replace HRC := hide (show ∀ (W : World), Below wr.heap.size wr W → Calls Try.prog 54 #[.slice ak kids.length ck, .slice ak2 kids.length ck2] W fun e w' => e = .returned (.bool true) ∧ Below W.heap.size W w' from HRC.out)
        have hkl6 : kids.length ≤ 140737488351232 := hkl5
        have HB1 := hide hb
        have HB2 := hide hb2
        clear hc1 hc2 hkl5 hb hb2
        have HS := hide (fun (W : World) (h : Below wr.heap.size wr W) => (show (Hid (Below wr.heap.size wr W) ∧ W.cell? ⟨b, o + k * 4, none⟩ = some (.int .i64 kd) ∧ W.cell? ⟨b, o + k * 4 + 1, none⟩ = some (.string t) ∧ W.cell? ⟨b, o + k * 4 + 2, none⟩ = some (.int .i64 nn) ∧ W.cell? ⟨b, o + k * 4 + 3, none⟩ = some (.slice ak kids.length ck) ∧ W.cell? ⟨b2, o2 + k * 4, none⟩ = some (.int .i64 kd) ∧ W.cell? ⟨b2, o2 + k * 4 + 1, none⟩ = some (.string t) ∧ W.cell? ⟨b2, o2 + k * 4 + 2, none⟩ = some (.int .i64 nn) ∧ W.cell? ⟨b2, o2 + k * 4 + 3, none⟩ = some (.slice ak2 kids.length ck2) ∧ b < W.heap.size ∧ b2 < W.heap.size) from ⟨hide h, (h.cell (p := ⟨b, o + k * 4, none⟩) HB1.out).trans HE.out.1, (h.cell (p := ⟨b, o + k * 4 + 1, none⟩) HB1.out).trans HE.out.2.1, (h.cell (p := ⟨b, o + k * 4 + 2, none⟩) HB1.out).trans HE.out.2.2.1, (h.cell (p := ⟨b, o + k * 4 + 3, none⟩) HB1.out).trans HE.out.2.2.2, (h.cell (p := ⟨b2, o2 + k * 4, none⟩) HB2.out).trans HF.out.1, (h.cell (p := ⟨b2, o2 + k * 4 + 1, none⟩) HB2.out).trans HF.out.2.1, (h.cell (p := ⟨b2, o2 + k * 4 + 2, none⟩) HB2.out).trans HF.out.2.2.1, (h.cell (p := ⟨b2, o2 + k * 4 + 3, none⟩) HB2.out).trans HF.out.2.2.2, Nat.lt_of_lt_of_le HB1.out h.size, Nat.lt_of_lt_of_le HB2.out h.size⟩))
        have n1 : (kd != kd) = false := bne_self_eq_false kd
        have n2 : (nn != nn) = false := bne_self_eq_false nn
        have n3 : (t.toList == t.toList) = true := beq_self_eq_true _
        have n4 : (!t.toList == t.toList) = false := by rw [n3]; rfl
        go_upto_region 6 with fail
        refine wp_region_lex 50 [(0, true), (1, true), (2, true), (3, true), (4, true), (5, true), (6, true), (7, true), (8, true), (9, true), (10, true), (11, true), (12, true), (13, true), (14, true), (15, true), (16, true), (17, true), (18, true), (19, true), (20, true), (21, true), (22, true), (23, true), (24, true), (25, true), (26, true), (27, true), (28, true), (29, true), (30, true), (31, true), (32, true), (33, true), (34, true), (35, true), (36, true), (37, true), (38, true), (39, true), (40, true), (41, true), (42, true), (43, true), (44, true), (45, true), (46, true), (47, true), (48, false), (49, true)] (fun W => (Hid (Below wr.heap.size wr W) ∧ W.cell? ⟨b, o + k * 4, none⟩ = some (.int .i64 kd) ∧ W.cell? ⟨b, o + k * 4 + 1, none⟩ = some (.string t) ∧ W.cell? ⟨b, o + k * 4 + 2, none⟩ = some (.int .i64 nn) ∧ W.cell? ⟨b, o + k * 4 + 3, none⟩ = some (.slice ak kids.length ck) ∧ W.cell? ⟨b2, o2 + k * 4, none⟩ = some (.int .i64 kd) ∧ W.cell? ⟨b2, o2 + k * 4 + 1, none⟩ = some (.string t) ∧ W.cell? ⟨b2, o2 + k * 4 + 2, none⟩ = some (.int .i64 nn) ∧ W.cell? ⟨b2, o2 + k * 4 + 3, none⟩ = some (.slice ak2 kids.length ck2) ∧ b < W.heap.size ∧ b2 < W.heap.size)) rfl (by kernel_rfl) (by kernel_rfl) (fun _ _ d _ _ h => by cases d <;> exact h) (HS.out _ (Below.refl wr.heap.size wr).drew) (fun hS0 => ?_)
        simp only [lexOps, List.filterMap_cons, List.filterMap_nil, List.getElem?_cons_zero, List.getElem?_cons_succ, Option.map_some, List.drop_succ_cons, List.drop_zero]
        repeat
          first
          | (refine wpLex_take (v := ?_) (by rfl) ?_ ?_
             rotate_left
             · intro w hSw
               (try dsimp only at hSw)
               go_simp
               try with_reducible rfl
             try simp only [Act.put, List.setIfInBounds_toArray, List.set_cons_zero, List.set_cons_succ])
          | (refine wpLex_skip (by rfl) ?_
             try simp only [Act.put, List.setIfInBounds_toArray, List.set_cons_zero, List.set_cons_succ])
        refine wpLex_step (fun K hK => ?_)
        go_simp
        refine (HRC.out _ (Below.refl wr.heap.size wr).drew).mono ?_
        rintro e w7 ⟨rfl, hb7⟩
        have hb7 := below_next (Below.refl wr.heap.size wr).drew hb7
        refine hK _ _ (HS.out _ hb7) (fun hS1 => ?_)
        try simp only [Act.put, List.setIfInBounds_toArray, List.set_cons_zero, List.set_cons_succ]
        repeat
          first
          | (refine wpLex_take (v := ?_) (by rfl) ?_ ?_
             rotate_left
             · intro w hSw
               (try dsimp only at hSw)
               go_simp
               try with_reducible rfl
             try simp only [Act.put, List.setIfInBounds_toArray, List.set_cons_zero, List.set_cons_succ])
          | (refine wpLex_skip (by rfl) ?_
             try simp only [Act.put, List.setIfInBounds_toArray, List.set_cons_zero, List.set_cons_succ])
        refine wpLex_nil ?_
        have HB7 := hide (below_next HBR.out hb7)
        clear hS0 hS1 hb7
        go_wp2_with fail
        go_roundg (l.length - (k + 1))
        case measure => rw [hu.out]; omega
        case rel => exact ⟨k + 1, hide rfl, by go_num, hide ⟨hlt, HB7.out⟩⟩
      · have hlti : ¬ (k : Int) < (l.length : Int) := by omega
        go_wp2_with fail
        go_ret
        exact ⟨rfl, HBR.out⟩
end Go.Proofs.Ytalicfpcmcbdbaa

set_option linter.unusedVariables false
set_option linter.unusedSimpArgs false
set_option linter.unnecessarySimpa false
set_option linter.deprecated false
namespace Go.Proofs.Ytalicfpcmcbdbaa
open Go.RowKit

theorem blk2 (w : World) (X Y : Array Value) (t s : TypeId) : Blk ((w.alloc (.cells X t)).alloc (.cells Y s)).drew w.heap.size X t ∧ Blk ((w.alloc (.cells X t)).alloc (.cells Y s)).drew (w.heap.size + 1) Y s := by
  refine ⟨(Blk.new w X t).below (NB.alloc (Below.refl _ _) _).drew, ?_⟩
  have h := Blk.new (w.alloc (.cells X t)) Y s
  have e : (w.alloc (.cells X t)).heap.size = w.heap.size + 1 := by simp
  rw [e] at h
  exact h
set_option maxHeartbeats 1600000 in
set_option maxRecDepth 100000 in
theorem sameProds_any (l : List Pd) (a a2 : Option Addr) (c c2 : Nat) (w : World) (hr1 : Row PdAt 5 l a w) (hr2 : Row PdAt 5 l a2 w) :
    Calls Try.prog 55 #[.slice a l.length c, .slice a2 l.length c2] w fun e w' => e = .returned (.bool true) ∧ Below w.heap.size w w' := by
  have HR1 := hide hr1
  have HR2 := hide hr2
  have hl := hr1.1
  clear hr1 hr2
  go_enter Try.func55, Try.ntmps55
  go_wp2_with fail
  go_loopg [5] l.length (fun u v5 wr => ∃ k : Nat, Hid (u = l.length - k) ∧ v5 = .int .i64 (k : Int) ∧ Hid (k ≤ l.length ∧ Below w.heap.size w wr))
  case atStart => exact ⟨0, hide rfl, rfl, hide ⟨Nat.zero_le _, Below.refl _ _⟩⟩
  case round =>
    obtain ⟨k, hu, rfl, hh⟩ := hrel
    have hkl := hh.out.1
    have HBR := hide hh.out.2
    clear hh
    by_cases hlt : k < l.length
    · have hlti : (k : Int) < (l.length : Int) := by omega
      obtain ⟨b, o, rfl, hb, hat⟩ := (HR1.out.below PdAt.stable HBR.out).get hlt
      obtain ⟨b2, o2, rfl, hb2, hat2⟩ := (HR2.out.below PdAt.stable HBR.out).get hlt
      have hx := hat k hlt
      have hx2 := hat2 k hlt
      generalize l[k] = x at hx hx2
      clear hat hat2
      obtain ⟨ap, cp, hc1, hrk⟩ := hx.cells
      obtain ⟨ap2, cp2, hc2, hrk2⟩ := hx2.cells
      have HRK := hide hrk
      have HRK2 := hide hrk2
      have hsl := hrk.1
      obtain ⟨lx, so, cn, br, sy⟩ := x
      have HE := hide (show wr.cell? ⟨b, o + k * 5, none⟩ = some (.bool lx) ∧ wr.cell? ⟨b, o + k * 5 + 1, none⟩ = some (.string so) ∧ wr.cell? ⟨b, o + k * 5 + 2, none⟩ = some (.string cn) ∧ wr.cell? ⟨b, o + k * 5 + 3, none⟩ = some (.bool br) ∧ wr.cell? ⟨b, o + k * 5 + 4, none⟩ = some (.slice ap sy.length cp) from hc1)
      have HF := hide (show wr.cell? ⟨b2, o2 + k * 5, none⟩ = some (.bool lx) ∧ wr.cell? ⟨b2, o2 + k * 5 + 1, none⟩ = some (.string so) ∧ wr.cell? ⟨b2, o2 + k * 5 + 2, none⟩ = some (.string cn) ∧ wr.cell? ⟨b2, o2 + k * 5 + 3, none⟩ = some (.bool br) ∧ wr.cell? ⟨b2, o2 + k * 5 + 4, none⟩ = some (.slice ap2 sy.length cp2) from hc2)
      have hsl2 : sy.length ≤ 140737488351232 := hsl
      have HB1 := hide hb
      have HB2 := hide hb2
      clear hc1 hc2 hsl hb hb2 hx hx2 hrk hrk2
      have n1 : (lx != lx) = false := bne_self_eq_false lx
      have n2 : (br != br) = false := bne_self_eq_false br
      have n3 : (so.toList == so.toList) = true := beq_self_eq_true _
      have n4 : (!so.toList == so.toList) = false := by rw [n3]; rfl
      have n5 : (cn.toList == cn.toList) = true := beq_self_eq_true _
      have n6 : (!cn.toList == cn.toList) = false := by rw [n5]; rfl
      have HS := hide (fun (W : World) (h : Below wr.heap.size wr W) => (show (Hid (Below wr.heap.size wr W) ∧ W.cell? ⟨b, o + k * 5, none⟩ = some (.bool lx) ∧ W.cell? ⟨b, o + k * 5 + 1, none⟩ = some (.string so) ∧ W.cell? ⟨b, o + k * 5 + 2, none⟩ = some (.string cn) ∧ W.cell? ⟨b, o + k * 5 + 3, none⟩ = some (.bool br) ∧ W.cell? ⟨b, o + k * 5 + 4, none⟩ = some (.slice ap sy.length cp) ∧ W.cell? ⟨b2, o2 + k * 5, none⟩ = some (.bool lx) ∧ W.cell? ⟨b2, o2 + k * 5 + 1, none⟩ = some (.string so) ∧ W.cell? ⟨b2, o2 + k * 5 + 2, none⟩ = some (.string cn) ∧ W.cell? ⟨b2, o2 + k * 5 + 3, none⟩ = some (.bool br) ∧ W.cell? ⟨b2, o2 + k * 5 + 4, none⟩ = some (.slice ap2 sy.length cp2) ∧ b < W.heap.size ∧ b2 < W.heap.size) from ⟨hide h, (h.cell (p := ⟨b, o + k * 5, none⟩) HB1.out).trans HE.out.1, (h.cell (p := ⟨b, o + k * 5 + 1, none⟩) HB1.out).trans HE.out.2.1, (h.cell (p := ⟨b, o + k * 5 + 2, none⟩) HB1.out).trans HE.out.2.2.1, (h.cell (p := ⟨b, o + k * 5 + 3, none⟩) HB1.out).trans HE.out.2.2.2.1, (h.cell (p := ⟨b, o + k * 5 + 4, none⟩) HB1.out).trans HE.out.2.2.2.2, (h.cell (p := ⟨b2, o2 + k * 5, none⟩) HB2.out).trans HF.out.1, (h.cell (p := ⟨b2, o2 + k * 5 + 1, none⟩) HB2.out).trans HF.out.2.1, (h.cell (p := ⟨b2, o2 + k * 5 + 2, none⟩) HB2.out).trans HF.out.2.2.1, (h.cell (p := ⟨b2, o2 + k * 5 + 3, none⟩) HB2.out).trans HF.out.2.2.2.1, (h.cell (p := ⟨b2, o2 + k * 5 + 4, none⟩) HB2.out).trans HF.out.2.2.2.2, Nat.lt_of_lt_of_le HB1.out h.size, Nat.lt_of_lt_of_le HB2.out h.size⟩))
      go_upto_region 6 with fail
      have hS0 := HS.out wr (Below.refl wr.heap.size wr)
      obtain ⟨_, z0, z1, z2, z3, z4, y0, y1, y2, y3, y4, hb, hb2⟩ := hS0
      have hwr : w.heap.size ≤ wr.heap.size := HBR.out.size
      go_cut [6, 7] from 20 to 28 (fun v6 v7 wc => ∃ kx ky, v6 = .pointer (some ⟨kx, 0, none⟩) ∧ v7 = .pointer (some ⟨ky, 0, none⟩) ∧ Hid (Below w.heap.size w wc ∧ Below wr.heap.size wr wc ∧ Blk wc kx #[.bool lx, .string so, .string cn, .bool br, .slice ap sy.length cp] 38 ∧ Blk wc ky #[.bool lx, .string so, .string cn, .bool br, .slice ap2 sy.length cp2] 38))
      case first =>
        go_region
        all_goals (go_wp2_with fail)
        all_goals go_meet
        · exact ⟨_, _, rfl, rfl, hide ⟨below_next HBR.out (NB.alloc (NB.alloc (Below.refl wr.heap.size wr) _) _).drew, (NB.alloc (NB.alloc (Below.refl wr.heap.size wr) _) _).drew, (blk2 wr _ _ 38 38).1, (blk2 wr _ _ 38 38).2⟩⟩
        · exact ⟨_, _, rfl, rfl, hide ⟨below_next HBR.out (NB.alloc (NB.alloc (Below.refl wr.heap.size wr) _) _).drew, (NB.alloc (NB.alloc (Below.refl wr.heap.size wr) _) _).drew, (blk2 wr _ _ 38 38).2, (blk2 wr _ _ 38 38).1⟩⟩
      case rest =>
        obtain ⟨kx, ky, rfl, rfl, hc⟩ := hcut
        have HBC := hide hc.out.1
        have HRC := hide hc.out.2.1
        have HX := hide hc.out.2.2.1
        have HY := hide hc.out.2.2.2
        clear hc z0 z1 z2 z3 z4 y0 y1 y2 y3 y4 hb hb2 hwr
        have p0 := HX.out.cell 0
        have p1 := HX.out.cell 1
        have p2 := HX.out.cell 2
        have p3 := HX.out.cell 3
        have p4 := HX.out.cell 4
        have pl := HX.out.lt
        have q0 := HY.out.cell 0
        have q1 := HY.out.cell 1
        have q2 := HY.out.cell 2
        have q3 := HY.out.cell 3
        have q4 := HY.out.cell 4
        have ql := HY.out.lt
        have n7 : ((sy.length : Int) != (sy.length : Int)) = false := bne_self_eq_false _
        go_wp2_with fail
        go_loopg [8] sy.length (fun u v8 wq => ∃ j : Nat, Hid (u = sy.length - j) ∧ v8 = .int .i64 (j : Int) ∧ Hid (j ≤ sy.length ∧ Below wc.heap.size wc wq))
        case atStart => exact ⟨0, hide rfl, rfl, hide ⟨Nat.zero_le _, Below.refl _ _⟩⟩
        case round =>
          obtain ⟨j, hv, rfl, hq⟩ := hrel
          have hjl := hq.out.1
          have HBQ := hide hq.out.2
          clear hq
          clear p0 p1 p2 p3 p4 pl q0 q1 q2 q3 q4 ql
          have p4 := (HX.out.below HBQ.out).cell 4
          have pl := (HX.out.below HBQ.out).lt
          have q4 := (HY.out.below HBQ.out).cell 4
          have ql := (HY.out.below HBQ.out).lt
          by_cases hltj : j < sy.length
          · have hltji : (j : Int) < (sy.length : Int) := by omega
            obtain ⟨b3, o3, rfl, hb3, hat3⟩ := (HRK.out.below SyAt.stable (below_next HRC.out HBQ.out)).get hltj
            obtain ⟨b4, o4, rfl, hb4, hat4⟩ := (HRK2.out.below SyAt.stable (below_next HRC.out HBQ.out)).get hltj
            have hx := hat3 j hltj
            have hx2 := hat4 j hltj
            generalize sy[j] = x at hx hx2
            clear hat3 hat4
            obtain ⟨kd, t, st, nm, sp⟩ := x
            obtain ⟨e0, e1, e2, e3, e4, e5, e6, e7⟩ := hx.cells
            obtain ⟨f0, f1, f2, f3, f4, f5, f6, f7⟩ := hx2.cells
            have hqs := fun W => neq_sym _ _ hx.1 hx.1 W
            simp only [decide_true, Bool.not_true] at hqs
            clear hx hx2
            go_upto_region 12 with fail
            go_quiet (fail)
            go_wp2_with fail
            go_roundg (sy.length - (j + 1))
            case measure => rw [hv.out]; omega
            case rel => exact ⟨j + 1, hide rfl, by go_num, hide ⟨hltj, HBQ.out.trans ⟨rfl, rfl, rfl, Nat.le_refl _, fun _ _ => rfl⟩⟩⟩
          · have hltji : ¬ (j : Int) < (sy.length : Int) := by omega
            go_wp2_with fail
            go_roundg (l.length - (k + 1))
            case measure => rw [hu.out]; omega
            case rel => exact ⟨k + 1, hide rfl, by go_num, hide ⟨hlt, below_next HBC.out HBQ.out⟩⟩
    · have hlti : ¬ (k : Int) < (l.length : Int) := by omega
      go_wp2_with fail
      go_ret
      exact ⟨rfl, HBR.out⟩
end Go.Proofs.Ytalicfpcmcbdbaa

set_option linter.unusedVariables false
set_option linter.unusedSimpArgs false
set_option linter.unnecessarySimpa false
set_option linter.deprecated false
namespace Go.Proofs.Ytalicfpcmcbdbaa
open Go.RowKit

set_option maxHeartbeats 3200000 in
set_option maxRecDepth 100000 in
theorem sameChains_any (l : List (List Gp)) (a a2 : Option Addr) (c c2 : Nat) (w : World) (hr1 : Row ChAt 1 l a w) (hr2 : Row ChAt 1 l a2 w) :
    Calls Try.prog 56 #[.slice a l.length c, .slice a2 l.length c2] w fun e w' => e = .returned (.bool true) ∧ Below w.heap.size w w' := by
  have HR1 := hide hr1
  have HR2 := hide hr2
  have hl := hr1.1
  clear hr1 hr2
  go_enter Try.func56, Try.ntmps56
  go_wp2_with fail
  go_loopg [5] l.length (fun u v5 wr => ∃ k : Nat, Hid (u = l.length - k) ∧ v5 = .int .i64 (k : Int) ∧ Hid (k ≤ l.length ∧ Below w.heap.size w wr))
  case atStart => exact ⟨0, hide rfl, rfl, hide ⟨Nat.zero_le _, Below.refl _ _⟩⟩
  case round =>
    obtain ⟨k, hu, rfl, hh⟩ := hrel
    have hkl := hh.out.1
    have HBR := hide hh.out.2
    clear hh
    by_cases hlt : k < l.length
    · have hlti : (k : Int) < (l.length : Int) := by omega
      obtain ⟨b, o, rfl, hb, hat⟩ := (HR1.out.below ChAt.stable HBR.out).get hlt
      obtain ⟨b2, o2, rfl, hb2, hat2⟩ := (HR2.out.below ChAt.stable HBR.out).get hlt
      have hx := hat k hlt
      have hx2 := hat2 k hlt
      rw [Nat.mul_one] at hx hx2
      generalize l[k] = ch at hx hx2
      clear hat hat2
      obtain ⟨ac, cc, e0, hrk⟩ := hx
      obtain ⟨ac2, cc2, e1, hrk2⟩ := hx2
      have HRK := hide hrk
      have HRK2 := hide hrk2
      have hcl := hrk.1
      have HE0 := hide e0
      have HE1 := hide e1
      have HB1 := hide hb
      have HB2 := hide hb2
      clear hrk hrk2
      have n7 : ((ch.length : Int) != (ch.length : Int)) = false := bne_self_eq_false _
      go_upto_region 6 with fail
      go_quiet (fail)
      obtain ⟨w3, h3⟩ : ∃ w3, wr.drewN nq = w3 := ⟨_, rfl⟩
      have HB3 := hide (show Below wr.heap.size wr w3 by rw [← h3]; exact ⟨rfl, rfl, rfl, Nat.le_refl _, fun _ _ => rfl⟩)
      rw [h3]
      clear h3 e0 e1 hb hb2
      go_wp2_with fail
      obtain ⟨w8, rfl⟩ : ∃ w8 : World, w8 = wr := ⟨_, rfl⟩
      go_loopg [6] ch.length (fun u v6 wr => ∃ g : Nat, Hid (u = ch.length - g) ∧ v6 = .int .i64 (g : Int) ∧ Hid (g ≤ ch.length ∧ Below w8.heap.size w8 wr))
      case atStart => exact ⟨0, hide rfl, rfl, hide ⟨Nat.zero_le _, HB3.out⟩⟩
      case round =>
        obtain ⟨g, hv, rfl, hq⟩ := hrel
        have hgl := hq.out.1
        have HBQ := hide hq.out.2
        clear hq
        have e0 := (HBQ.out.cell (p := ⟨b, o + k, none⟩) HB1.out).trans HE0.out
        have e1 := (HBQ.out.cell (p := ⟨b2, o2 + k, none⟩) HB2.out).trans HE1.out
        have hb := Nat.lt_of_lt_of_le HB1.out HBQ.out.size
        have hb2 := Nat.lt_of_lt_of_le HB2.out HBQ.out.size
        by_cases hltg : g < ch.length
        · have hltgi : (g : Int) < (ch.length : Int) := by omega
          obtain ⟨b3, o3, rfl, hb3, hat3⟩ := (HRK.out.below GpAt.stable HBQ.out).get hltg
          obtain ⟨b4, o4, rfl, hb4, hat4⟩ := (HRK2.out.below GpAt.stable HBQ.out).get hltg
          have hx := hat3 g hltg
          have hx2 := hat4 g hltg
          generalize ch[g] = p at hx hx2
          clear hat3 hat4
          obtain ⟨ag, cg, ⟨g0, g1⟩, hrg⟩ := hx.cells
          obtain ⟨ag2, cg2, ⟨f0, f1⟩, hrg2⟩ := hx2.cells
          have HRC := hide (fun (W : World) (h : Below wr.heap.size wr W) => sameNames_eq p.cons ag ag2 cg cg2 W (hrg.below StrAt.stable h) (hrg2.below StrAt.stable h))
          have hpl := hrg.1
          clear hx hx2 hrg hrg2
          obtain ⟨as_, cn⟩ := p
          replace hpl : cn.length ≤ 140737488351232 := hpl
          have G0 := hide (show wr.cell? ⟨b3, o3 + g * 2, none⟩ = some (.int .i64 as_) from g0)
          have G1 := hide (show wr.cell? ⟨b3, o3 + g * 2 + 1, none⟩ = some (.slice ag cn.length cg) from g1)
          have F0 := hide (show wr.cell? ⟨b4, o4 + g * 2, none⟩ = some (.int .i64 as_) from f0)
          have F1 := hide (show wr.cell? ⟨b4, o4 + g * 2 + 1, none⟩ = some (.slice ag2 cn.length cg2) from f1)
          have E0 := hide e0
          have E1 := hide e1
          have HBS := hide (show b < wr.heap.size ∧ b2 < wr.heap.size ∧ b3 < wr.heap.size ∧ b4 < wr.heap.size from ⟨hb, hb2, hb3, hb4⟩)
          replace HRC := hide (show ∀ (W : World), Below wr.heap.size wr W → Calls Try.prog 26 #[.slice ag cn.length cg, .slice ag2 cn.length cg2] W fun e w' => e = .returned (.bool true) ∧ Below W.heap.size W w' from HRC.out)
          clear g0 g1 f0 f1
          have n1 : (as_ != as_) = false := bne_self_eq_false as_
          have HS := hide (fun (W : World) (h : Below wr.heap.size wr W) => (show (Hid (Below wr.heap.size wr W) ∧ W.cell? ⟨b, o + k, none⟩ = some (.slice (some ⟨b3, o3, none⟩) ch.length cc) ∧ W.cell? ⟨b2, o2 + k, none⟩ = some (.slice (some ⟨b4, o4, none⟩) ch.length cc2) ∧ W.cell? ⟨b3, o3 + g * 2, none⟩ = some (.int .i64 as_) ∧ W.cell? ⟨b3, o3 + g * 2 + 1, none⟩ = some (.slice ag cn.length cg) ∧ W.cell? ⟨b4, o4 + g * 2, none⟩ = some (.int .i64 as_) ∧ W.cell? ⟨b4, o4 + g * 2 + 1, none⟩ = some (.slice ag2 cn.length cg2) ∧ b < W.heap.size ∧ b2 < W.heap.size ∧ b3 < W.heap.size ∧ b4 < W.heap.size) from ⟨hide h, (h.cell (p := ⟨b, o + k, none⟩) HBS.out.1).trans E0.out, (h.cell (p := ⟨b2, o2 + k, none⟩) HBS.out.2.1).trans E1.out, (h.cell (p := ⟨b3, o3 + g * 2, none⟩) HBS.out.2.2.1).trans G0.out, (h.cell (p := ⟨b3, o3 + g * 2 + 1, none⟩) HBS.out.2.2.1).trans G1.out, (h.cell (p := ⟨b4, o4 + g * 2, none⟩) HBS.out.2.2.2).trans F0.out, (h.cell (p := ⟨b4, o4 + g * 2 + 1, none⟩) HBS.out.2.2.2).trans F1.out, Nat.lt_of_lt_of_le HBS.out.1 h.size, Nat.lt_of_lt_of_le HBS.out.2.1 h.size, Nat.lt_of_lt_of_le HBS.out.2.2.1 h.size, Nat.lt_of_lt_of_le HBS.out.2.2.2 h.size⟩))
          go_upto_region 11 with fail
          clear e0 e1 hb hb2 hb3 hb4
          refine wp_region_lex 36 [(0, true), (1, true), (2, true), (3, true), (4, true), (5, true), (6, true), (7, true), (8, true), (9, true), (10, true), (11, true), (12, true), (13, true), (14, true), (15, true), (16, true), (17, true), (18, true), (19, true), (20, true), (21, true), (22, true), (23, true), (24, true), (25, true), (26, true), (27, true), (28, true), (29, true), (30, true), (31, true), (32, true), (33, true), (34, false), (35, true)] (fun W => (Hid (Below wr.heap.size wr W) ∧ W.cell? ⟨b, o + k, none⟩ = some (.slice (some ⟨b3, o3, none⟩) ch.length cc) ∧ W.cell? ⟨b2, o2 + k, none⟩ = some (.slice (some ⟨b4, o4, none⟩) ch.length cc2) ∧ W.cell? ⟨b3, o3 + g * 2, none⟩ = some (.int .i64 as_) ∧ W.cell? ⟨b3, o3 + g * 2 + 1, none⟩ = some (.slice ag cn.length cg) ∧ W.cell? ⟨b4, o4 + g * 2, none⟩ = some (.int .i64 as_) ∧ W.cell? ⟨b4, o4 + g * 2 + 1, none⟩ = some (.slice ag2 cn.length cg2) ∧ b < W.heap.size ∧ b2 < W.heap.size ∧ b3 < W.heap.size ∧ b4 < W.heap.size)) rfl (by kernel_rfl) (by kernel_rfl) (fun _ _ d _ _ h => by cases d <;> exact h) (HS.out _ (Below.refl wr.heap.size wr).drew) (fun hS0 => ?_)
          simp only [lexOps, List.filterMap_cons, List.filterMap_nil, List.getElem?_cons_zero, List.getElem?_cons_succ, Option.map_some, List.drop_succ_cons, List.drop_zero]
          repeat
            first
            | (refine wpLex_take (v := ?_) (by rfl) ?_ ?_
               rotate_left
               · intro w hSw
                 (try dsimp only at hSw)
                 go_simp
                 try with_reducible rfl
               try simp only [Act.put, List.setIfInBounds_toArray, List.set_cons_zero, List.set_cons_succ])
            | (refine wpLex_skip (by rfl) ?_
               try simp only [Act.put, List.setIfInBounds_toArray, List.set_cons_zero, List.set_cons_succ])
          refine wpLex_step (fun K hK => ?_)
          go_simp
          refine (HRC.out _ (Below.refl wr.heap.size wr).drew).mono ?_
          rintro e w7 ⟨rfl, hb7⟩
          have hb7 := below_next (Below.refl wr.heap.size wr).drew hb7
          refine hK _ _ (HS.out _ hb7) (fun hS1 => ?_)
          try simp only [Act.put, List.setIfInBounds_toArray, List.set_cons_zero, List.set_cons_succ]
          repeat
            first
            | (refine wpLex_take (v := ?_) (by rfl) ?_ ?_
               rotate_left
               · intro w hSw
                 (try dsimp only at hSw)
                 go_simp
                 try with_reducible rfl
               try simp only [Act.put, List.setIfInBounds_toArray, List.set_cons_zero, List.set_cons_succ])
            | (refine wpLex_skip (by rfl) ?_
               try simp only [Act.put, List.setIfInBounds_toArray, List.set_cons_zero, List.set_cons_succ])
          refine wpLex_nil ?_
          have HB7 := hide (below_next HBQ.out hb7)
          clear hS0 hS1 hb7
          go_wp2_with fail
          go_roundg (ch.length - (g + 1))
          case measure => rw [hv.out]; omega
          case rel => exact ⟨g + 1, hide rfl, by go_num, hide ⟨hltg, HB7.out⟩⟩
        · have hltgi : ¬ (g : Int) < (ch.length : Int) := by omega
          go_wp2_with fail
          go_roundg (l.length - (k + 1))
          case measure => rw [hu.out]; omega
          case rel => exact ⟨k + 1, hide rfl, by go_num, hide ⟨hlt, below_next HBR.out HBQ.out⟩⟩
    · have hlti : ¬ (k : Int) < (l.length : Int) := by omega
      go_wp2_with fail
      go_ret
      exact ⟨rfl, HBR.out⟩
end Go.Proofs.Ytalicfpcmcbdbaa

set_option linter.unusedVariables false
set_option linter.unusedSimpArgs false
set_option linter.unnecessarySimpa false
set_option linter.deprecated false
namespace Go.Proofs.Ytalicfpcmcbdbaa
open Go.RowKit

set_option maxHeartbeats 3200000 in
set_option maxRecDepth 100000 in
theorem same_any (d : Df) (a2 : Option Addr) (c2 : Nat) (a3 : Option Addr) (c3 : Nat) (a4 : Option Addr) (c4 : Nat) (a5 : Option Addr) (c5 : Nat) (a6 : Option Addr) (c6 : Nat) (e2 : Option Addr) (f2 : Nat) (e3 : Option Addr) (f3 : Nat) (e4 : Option Addr) (f4 : Nat) (e5 : Option Addr) (f5 : Nat) (e6 : Option Addr) (f6 : Nat) (w : World) (hd : RD d ⟨a2, c2, a3, c3, a4, c4, a5, c5, a6, c6⟩ w) (he : RD d ⟨e2, f2, e3, f3, e4, f4, e5, f5, e6, f6⟩ w) : Calls Try.prog 16 #[.agg #[.string d.start, .string d.layout, .slice a2 d.prods.length c2, .slice a3 d.chains.length c3, .slice a4 d.follows.length c4, .slice a5 d.rejects.length c5, .slice a6 d.boxes.length c6], .agg #[.string d.start, .string d.layout, .slice e2 d.prods.length f2, .slice e3 d.chains.length f3, .slice e4 d.follows.length f4, .slice e5 d.rejects.length f5, .slice e6 d.boxes.length f6]] w fun e w' => e = .returned (.bool true) ∧ Below w.heap.size w w' := by
  have HD := hide hd
  have HE := hide he
  have hl4 := hd.f.1
  have hl5 := hd.j.1
  have hl6 := hd.x.1
  have hl2 := hd.p.1
  have hl3 := hd.c.1
  clear hd he
  go_enter Try.func16, Try.ntmps16
  go_upto_region 1 with fail
  obtain ⟨kx, hkx⟩ : ∃ kx, w.heap.size = kx := ⟨_, rfl⟩
  have e9 : (w.alloc (.cells #[.string d.start, .string d.layout, .slice a2 d.prods.length c2, .slice a3 d.chains.length c3, .slice a4 d.follows.length c4, .slice a5 d.rejects.length c5, .slice a6 d.boxes.length c6] 28)).heap.size = kx + 1 := by rw [← hkx]; simp
  obtain ⟨w0, h0⟩ : ∃ w0, w.alloc (.cells #[.string d.start, .string d.layout, .slice a2 d.prods.length c2, .slice a3 d.chains.length c3, .slice a4 d.follows.length c4, .slice a5 d.rejects.length c5, .slice a6 d.boxes.length c6] 28) = w0 := ⟨_, rfl⟩
  have HBa := hide (show Below w.heap.size w w0 by rw [← h0]; exact NB.alloc (Below.refl _ _) _)
  have HXa := hide (show Blk w0 kx #[.string d.start, .string d.layout, .slice a2 d.prods.length c2, .slice a3 d.chains.length c3, .slice a4 d.follows.length c4, .slice a5 d.rejects.length c5, .slice a6 d.boxes.length c6] 28 by rw [← h0, ← hkx]; exact Blk.new w _ _)
  obtain ⟨w1, h1⟩ : ∃ w1, w0.alloc (.cells #[.string d.start, .string d.layout, .slice e2 d.prods.length f2, .slice e3 d.chains.length f3, .slice e4 d.follows.length f4, .slice e5 d.rejects.length f5, .slice e6 d.boxes.length f6] 28) = w1 := ⟨_, rfl⟩
  have HBb := hide (show Below w0.heap.size w0 w1 by rw [← h1]; exact NB.alloc (Below.refl _ _) _)
  obtain ⟨ky, hky⟩ : ∃ ky, kx + 1 = ky := ⟨_, rfl⟩
  have HY := hide (show Blk w1 ky #[.string d.start, .string d.layout, .slice e2 d.prods.length f2, .slice e3 d.chains.length f3, .slice e4 d.follows.length f4, .slice e5 d.rejects.length f5, .slice e6 d.boxes.length f6] 28 by rw [← h1, ← hky, ← e9, h0]; exact Blk.new w0 _ _)
  have HX := hide (HXa.out.below HBb.out)
  have HB0 := hide (below_next HBa.out HBb.out)
  replace HD := hide (HD.out.below HB0.out)
  replace HE := hide (HE.out.below HB0.out)
  rw [hkx, h0, h1]
  try rw [hky]
  clear h0 h1 hkx hky e9 HBa HBb HXa
  clear w0
  have x0 := HX.out.cell 0
  have x1 := HX.out.cell 1
  have x4 := HX.out.cell 4
  have x5 := HX.out.cell 5
  have x6 := HX.out.cell 6
  have xl := HX.out.lt
  have y0 := HY.out.cell 0
  have y1 := HY.out.cell 1
  have y4 := HY.out.cell 4
  have y5 := HY.out.cell 5
  have y6 := HY.out.cell 6
  have yl := HY.out.lt
  have n1 : (d.start.toList == d.start.toList) = true := beq_self_eq_true _
  have n2 : (!d.start.toList == d.start.toList) = false := by rw [n1]; rfl
  have n3 : (d.layout.toList == d.layout.toList) = true := beq_self_eq_true _
  have n4 : (!d.layout.toList == d.layout.toList) = false := by rw [n3]; rfl
  have n5 : ((d.follows.length : Int) != (d.follows.length : Int)) = false := bne_self_eq_false _
  have n6 : ((d.rejects.length : Int) != (d.rejects.length : Int)) = false := bne_self_eq_false _
  have n7 : ((d.boxes.length : Int) != (d.boxes.length : Int)) = false := bne_self_eq_false _
  go_wp2_with fail
  clear x0 x1 x4 x5 x6 xl y0 y1 y4 y5 y6 yl
  go_loopg [5] d.follows.length (fun u v5 wr => ∃ k : Nat, Hid (u = d.follows.length - k) ∧ v5 = .int .i64 (k : Int) ∧ Hid (k ≤ d.follows.length ∧ Below w1.heap.size w1 wr))
  case atStart => exact ⟨0, hide rfl, rfl, hide ⟨Nat.zero_le _, Below.refl _ _⟩⟩
  case round =>
    obtain ⟨k, hu, rfl, hh⟩ := hrel
    have hkl := hh.out.1
    have HBR := hide hh.out.2
    clear hh
    have x4 := (HX.out.below HBR.out).cell 4
    have xl := (HX.out.below HBR.out).lt
    have y4 := (HY.out.below HBR.out).cell 4
    have yl := (HY.out.below HBR.out).lt
    by_cases hlt : k < d.follows.length
    · have hlti : (k : Int) < (d.follows.length : Int) := by omega
      obtain ⟨b, o, rfl, hb, hat⟩ := (HD.out.below HBR.out).f.get hlt
      obtain ⟨b2, o2, rfl, hb2, hat2⟩ := (HE.out.below HBR.out).f.get hlt
      have hx := hat k hlt
      have hx2 := hat2 k hlt
      generalize d.follows[k] = x at hx hx2
      clear hat hat2
      obtain ⟨z0, z1, z2, z3, z4⟩ := hx.cells
      obtain ⟨t0, t1, t2, t3, t4⟩ := hx2.cells
      obtain ⟨so, st⟩ := x
      have hqs := fun W => neq_fl _ _ hx.1 hx.1 W
      simp only [decide_true, Bool.not_true] at hqs
      clear hx hx2
      go_upto_region 6 with fail
      go_quiet (fail)
      go_wp2_with fail
      go_roundg (d.follows.length - (k + 1))
      case measure => rw [hu.out]; omega
      case rel => exact ⟨k + 1, hide rfl, by go_num, hide ⟨hlt, HBR.out.trans ⟨rfl, rfl, rfl, Nat.le_refl _, fun _ _ => rfl⟩⟩⟩
    · have hlti : ¬ (k : Int) < (d.follows.length : Int) := by omega
      obtain ⟨w8, rfl⟩ : ∃ w8 : World, w8 = wr := ⟨_, rfl⟩
      have HB8 := hide HBR.out
      clear HBR hu hkl hlt
      go_wp2_with fail
      go_loopg [6] d.rejects.length (fun u v5 wr => ∃ k : Nat, Hid (u = d.rejects.length - k) ∧ v5 = .int .i64 (k : Int) ∧ Hid (k ≤ d.rejects.length ∧ Below w1.heap.size w1 wr))
      case atStart => exact ⟨0, hide rfl, rfl, hide ⟨Nat.zero_le _, HB8.out⟩⟩
      case round =>
        obtain ⟨k, hu, rfl, hh⟩ := hrel
        have hkl := hh.out.1
        have HBR := hide hh.out.2
        clear hh
        have x5 := (HX.out.below HBR.out).cell 5
        have xl := (HX.out.below HBR.out).lt
        have y5 := (HY.out.below HBR.out).cell 5
        have yl := (HY.out.below HBR.out).lt
        by_cases hlt : k < d.rejects.length
        · have hlti : (k : Int) < (d.rejects.length : Int) := by omega
          obtain ⟨b, o, rfl, hb, hat⟩ := (HD.out.below HBR.out).j.get hlt
          obtain ⟨b2, o2, rfl, hb2, hat2⟩ := (HE.out.below HBR.out).j.get hlt
          have hx := hat k hlt
          have hx2 := hat2 k hlt
          generalize d.rejects[k] = x at hx hx2
          clear hat hat2
          obtain ⟨z0, z1⟩ := hx.cells
          obtain ⟨t0, t1⟩ := hx2.cells
          obtain ⟨so, by_⟩ := x
          have hqs := fun W => neq_rj _ _ hx.1 hx.1 W
          simp only [decide_true, Bool.not_true] at hqs
          clear hx hx2
          go_upto_region 11 with fail
          go_quiet (fail)
          go_wp2_with fail
          go_roundg (d.rejects.length - (k + 1))
          case measure => rw [hu.out]; omega
          case rel => exact ⟨k + 1, hide rfl, by go_num, hide ⟨hlt, HBR.out.trans ⟨rfl, rfl, rfl, Nat.le_refl _, fun _ _ => rfl⟩⟩⟩
        · have hlti : ¬ (k : Int) < (d.rejects.length : Int) := by omega
          obtain ⟨w8, rfl⟩ : ∃ w8 : World, w8 = wr := ⟨_, rfl⟩
          have HB8 := hide HBR.out
          clear HBR hu hkl hlt
          go_wp2_with fail
          go_loopg [7] d.boxes.length (fun u v5 wr => ∃ k : Nat, Hid (u = d.boxes.length - k) ∧ v5 = .int .i64 (k : Int) ∧ Hid (k ≤ d.boxes.length ∧ Below w1.heap.size w1 wr))
          case atStart => exact ⟨0, hide rfl, rfl, hide ⟨Nat.zero_le _, HB8.out⟩⟩
          case round =>
            obtain ⟨k, hu, rfl, hh⟩ := hrel
            have hkl := hh.out.1
            have HBR := hide hh.out.2
            clear hh
            have x6 := (HX.out.below HBR.out).cell 6
            have xl := (HX.out.below HBR.out).lt
            have y6 := (HY.out.below HBR.out).cell 6
            have yl := (HY.out.below HBR.out).lt
            by_cases hlt : k < d.boxes.length
            · have hlti : (k : Int) < (d.boxes.length : Int) := by omega
              obtain ⟨b, o, rfl, hb, hat⟩ := (HD.out.below HBR.out).x.get hlt
              obtain ⟨b2, o2, rfl, hb2, hat2⟩ := (HE.out.below HBR.out).x.get hlt
              have hx := hat k hlt
              have hx2 := hat2 k hlt
              generalize d.boxes[k] = x at hx hx2
              clear hat hat2
              obtain ⟨_, ai, ci, ⟨g0, g1⟩, hrg⟩ := hx.cells
              obtain ⟨_, ai2, ci2, ⟨f0, f1⟩, hrg2⟩ := hx2.cells
              have HRC := hide (fun (W : World) (h : Below wr.heap.size wr W) => sameItems_all _ x.items (Nat.lt_succ_self _) ai ai2 ci ci2 W (hrg.below ItAt.stable h) (hrg2.below ItAt.stable h))
              have hpl := hrg.1
              clear hx hx2 hrg hrg2
              obtain ⟨cn, its⟩ := x
              replace hpl : its.length ≤ 140737488351232 := hpl
              have G0 := hide (show wr.cell? ⟨b, o + k * 2, none⟩ = some (.string cn) from g0)
              have G1 := hide (show wr.cell? ⟨b, o + k * 2 + 1, none⟩ = some (.slice ai its.length ci) from g1)
              have F0 := hide (show wr.cell? ⟨b2, o2 + k * 2, none⟩ = some (.string cn) from f0)
              have F1 := hide (show wr.cell? ⟨b2, o2 + k * 2 + 1, none⟩ = some (.slice ai2 its.length ci2) from f1)
              have X6 := hide x6
              have Y6 := hide y6
              have HBS := hide (show kx < wr.heap.size ∧ ky < wr.heap.size ∧ b < wr.heap.size ∧ b2 < wr.heap.size from ⟨xl, yl, hb, hb2⟩)
              replace HRC := hide (show ∀ (W : World), Below wr.heap.size wr W → Calls Try.prog 54 #[.slice ai its.length ci, .slice ai2 its.length ci2] W fun e w' => e = .returned (.bool true) ∧ Below W.heap.size W w' from HRC.out)
              clear g0 g1 f0 f1
              have n8 : (cn.toList == cn.toList) = true := beq_self_eq_true _
              have n9 : (!cn.toList == cn.toList) = false := by rw [n8]; rfl
              have HS := hide (fun (W : World) (h : Below wr.heap.size wr W) => (show (Hid (Below wr.heap.size wr W) ∧ W.cell? ⟨kx, 6, none⟩ = some (.slice (some ⟨b, o, none⟩) d.boxes.length c6) ∧ W.cell? ⟨ky, 6, none⟩ = some (.slice (some ⟨b2, o2, none⟩) d.boxes.length f6) ∧ W.cell? ⟨b, o + k * 2, none⟩ = some (.string cn) ∧ W.cell? ⟨b, o + k * 2 + 1, none⟩ = some (.slice ai its.length ci) ∧ W.cell? ⟨b2, o2 + k * 2, none⟩ = some (.string cn) ∧ W.cell? ⟨b2, o2 + k * 2 + 1, none⟩ = some (.slice ai2 its.length ci2) ∧ kx < W.heap.size ∧ ky < W.heap.size ∧ b < W.heap.size ∧ b2 < W.heap.size) from ⟨hide h, (h.cell (p := ⟨kx, 6, none⟩) HBS.out.1).trans X6.out, (h.cell (p := ⟨ky, 6, none⟩) HBS.out.2.1).trans Y6.out, (h.cell (p := ⟨b, o + k * 2, none⟩) HBS.out.2.2.1).trans G0.out, (h.cell (p := ⟨b, o + k * 2 + 1, none⟩) HBS.out.2.2.1).trans G1.out, (h.cell (p := ⟨b2, o2 + k * 2, none⟩) HBS.out.2.2.2).trans F0.out, (h.cell (p := ⟨b2, o2 + k * 2 + 1, none⟩) HBS.out.2.2.2).trans F1.out, Nat.lt_of_lt_of_le HBS.out.1 h.size, Nat.lt_of_lt_of_le HBS.out.2.1 h.size, Nat.lt_of_lt_of_le HBS.out.2.2.1 h.size, Nat.lt_of_lt_of_le HBS.out.2.2.2 h.size⟩))
              go_upto_region 16 with fail
              clear x6 y6 xl yl hb hb2
              refine wp_region_lex 28 [(0, true), (1, true), (2, true), (3, true), (4, true), (5, true), (6, true), (7, true), (8, true), (9, true), (10, true), (11, true), (12, true), (13, true), (14, true), (15, true), (16, true), (17, true), (18, true), (19, true), (20, true), (21, true), (22, true), (23, true), (24, true), (25, true), (26, false), (27, true)] (fun W => (Hid (Below wr.heap.size wr W) ∧ W.cell? ⟨kx, 6, none⟩ = some (.slice (some ⟨b, o, none⟩) d.boxes.length c6) ∧ W.cell? ⟨ky, 6, none⟩ = some (.slice (some ⟨b2, o2, none⟩) d.boxes.length f6) ∧ W.cell? ⟨b, o + k * 2, none⟩ = some (.string cn) ∧ W.cell? ⟨b, o + k * 2 + 1, none⟩ = some (.slice ai its.length ci) ∧ W.cell? ⟨b2, o2 + k * 2, none⟩ = some (.string cn) ∧ W.cell? ⟨b2, o2 + k * 2 + 1, none⟩ = some (.slice ai2 its.length ci2) ∧ kx < W.heap.size ∧ ky < W.heap.size ∧ b < W.heap.size ∧ b2 < W.heap.size)) rfl (by kernel_rfl) (by kernel_rfl) (fun _ _ d _ _ h => by cases d <;> exact h) (HS.out _ (Below.refl wr.heap.size wr).drew) (fun hS0 => ?_)
              simp only [lexOps, List.filterMap_cons, List.filterMap_nil, List.getElem?_cons_zero, List.getElem?_cons_succ, Option.map_some, List.drop_succ_cons, List.drop_zero]
              repeat
                first
                | (refine wpLex_take (v := ?_) (by rfl) ?_ ?_
                   rotate_left
                   · intro w hSw
                     (try dsimp only at hSw)
                     go_simp
                     try with_reducible rfl
                   try simp only [Act.put, List.setIfInBounds_toArray, List.set_cons_zero, List.set_cons_succ])
                | (refine wpLex_skip (by rfl) ?_
                   try simp only [Act.put, List.setIfInBounds_toArray, List.set_cons_zero, List.set_cons_succ])
              refine wpLex_step (fun K hK => ?_)
              go_simp
              refine (HRC.out _ (Below.refl wr.heap.size wr).drew).mono ?_
              rintro e w7 ⟨rfl, hb7⟩
              have hb7 := below_next (Below.refl wr.heap.size wr).drew hb7
              refine hK _ _ (HS.out _ hb7) (fun hS1 => ?_)
              try simp only [Act.put, List.setIfInBounds_toArray, List.set_cons_zero, List.set_cons_succ]
              repeat
                first
                | (refine wpLex_take (v := ?_) (by rfl) ?_ ?_
                   rotate_left
                   · intro w hSw
                     (try dsimp only at hSw)
                     go_simp
                     try with_reducible rfl
                   try simp only [Act.put, List.setIfInBounds_toArray, List.set_cons_zero, List.set_cons_succ])
                | (refine wpLex_skip (by rfl) ?_
                   try simp only [Act.put, List.setIfInBounds_toArray, List.set_cons_zero, List.set_cons_succ])
              refine wpLex_nil ?_
              have HB7 := hide (below_next HBR.out hb7)
              clear hS0 hS1 hb7
              go_wp2_with fail
              go_roundg (d.boxes.length - (k + 1))
              case measure => rw [hu.out]; omega
              case rel => exact ⟨k + 1, hide rfl, by go_num, hide ⟨hlt, HB7.out⟩⟩
            · have hlti : ¬ (k : Int) < (d.boxes.length : Int) := by omega
              obtain ⟨w9, rfl⟩ : ∃ w9 : World, w9 = wr := ⟨_, rfl⟩
              have HPP := hide (sameProds_any d.prods a2 e2 c2 f2 w9 (HD.out.below HBR.out).p (HE.out.below HBR.out).p)
              have x2 := (HX.out.below HBR.out).cell 2
              have y2 := (HY.out.below HBR.out).cell 2
              go_wp2_with fail
              refine HPP.out.mono ?_
              rintro e w7 ⟨rfl, hb7⟩
              have HB7 := hide (below_next HBR.out hb7)
              have HCC := hide (sameChains_any d.chains a3 e3 c3 f3 w7 (HD.out.below HB7.out).c (HE.out.below HB7.out).c)
              clear hb7 x2 y2 xl yl x6 y6
              have x3 := (HX.out.below HB7.out).cell 3
              have xl := (HX.out.below HB7.out).lt
              have y3 := (HY.out.below HB7.out).cell 3
              have yl := (HY.out.below HB7.out).lt
              go_wp2_with fail
              refine HCC.out.mono ?_
              rintro e w6 ⟨rfl, hb6⟩
              have HB6 := hide (below_next HB7.out hb6)
              clear hb6
              go_wp2_with fail
              go_ret
              exact ⟨rfl, below_next HB0.out HB6.out⟩
end Go.Proofs.Ytalicfpcmcbdbaa

set_option linter.unusedVariables false
set_option linter.unusedSimpArgs false
set_option linter.unnecessarySimpa false
set_option linter.deprecated false
namespace Go.Proofs.Ytalicfpcmcbdbaa
open Go.RowKit

theorem syOk {l : List Sy} {a : Option Addr} {W : World} (h : Row SyAt 8 l a W) : ∀ s ∈ l, s.ok := fun s hs => by
  obtain ⟨i, hi, rfl⟩ := List.mem_iff_getElem.1 hs
  obtain ⟨b, o, _, _, hat⟩ := h.get hi
  exact (hat i hi).1
theorem sySrcs {l : List Sy} {a : Option Addr} {W : World} (h : Row SyAt 8 l a W) : Srcs a l.length (symsC l) W := by
  have := h.srcs (l.map syC) (by simp) (fun cs hcs => by obtain ⟨s, _, rfl⟩ := List.mem_map.1 hcs; rfl) (by decide) (fun i h1 h2 b o hx => by rw [List.getElem_map]; exact hx.2)
  rw [show (l.map syC).flatten = symsC l by unfold symsC; rw [List.flatMap_def]] at this
  exact this
theorem strSrcs {l : List ByteArray} {a : Option Addr} {W : World} (h : Row StrAt 1 l a W) : Srcs a l.length (strsC l) W := by
  have := h.srcs (l.map (fun s => [Value.string s])) (by simp) (fun cs hcs => by obtain ⟨s, _, rfl⟩ := List.mem_map.1 hcs; rfl) (by decide) (fun i h1 h2 b o hx => by
    rw [List.getElem_map]
    intro j u hj
    match j, hj with
    | 0, hj => simp at hj; subst hj; exact hx.2
    | j + 1, hj => simp at hj)
  have hfl : ∀ l : List ByteArray, (l.map (fun s => [Value.string s])).flatten = strsC l := fun l => by
    induction l with
    | nil => rfl
    | cons x l ih => rw [List.map_cons, List.flatten_cons, ih]; rfl
  rw [hfl] at this
  exact this
theorem strShort {l : List ByteArray} {a : Option Addr} {W : World} (h : Row StrAt 1 l a W) : ∀ s ∈ l, short s := fun s hs => by
  obtain ⟨i, hi, rfl⟩ := List.mem_iff_getElem.1 hs
  obtain ⟨b, o, _, _, hat⟩ := h.get hi
  exact (hat i hi).1
theorem flSrcs {l : List Fl} {a : Option Addr} {W : World} (h : Row FlAt 5 l a W) : Srcs a l.length (l.flatMap flC) W := by
  have := h.srcs (l.map flC) (by simp) (fun cs hcs => by obtain ⟨s, _, rfl⟩ := List.mem_map.1 hcs; rfl) (by decide) (fun i h1 h2 b o hx => by rw [List.getElem_map]; exact hx.2)
  rw [← List.flatMap_def] at this
  exact this
theorem rjSrcs {l : List Rj} {a : Option Addr} {W : World} (h : Row RjAt 2 l a W) : Srcs a l.length (l.flatMap rjC) W := by
  have := h.srcs (l.map rjC) (by simp) (fun cs hcs => by obtain ⟨s, _, rfl⟩ := List.mem_map.1 hcs; rfl) (by decide) (fun i h1 h2 b o hx => by rw [List.getElem_map]; exact hx.2)
  rw [← List.flatMap_def] at this
  exact this
theorem flOk {l : List Fl} {a : Option Addr} {W : World} (h : Row FlAt 5 l a W) : ∀ s ∈ l, s.ok := fun s hs => by
  obtain ⟨i, hi, rfl⟩ := List.mem_iff_getElem.1 hs
  obtain ⟨b, o, _, _, hat⟩ := h.get hi
  exact (hat i hi).1
theorem rjOk {l : List Rj} {a : Option Addr} {W : World} (h : Row RjAt 2 l a W) : ∀ s ∈ l, s.ok := fun s hs => by
  obtain ⟨i, hi, rfl⟩ := List.mem_iff_getElem.1 hs
  obtain ⟨b, o, _, _, hat⟩ := h.get hi
  exact (hat i hi).1
theorem flC_len : ∀ l : List Fl, (l.flatMap flC).length = l.length * 5
  | [] => rfl
  | x :: l => by rw [List.flatMap_cons, List.length_append, flC_len l, List.length_cons]; simp [flC]; omega
theorem rjC_len : ∀ l : List Rj, (l.flatMap rjC).length = l.length * 2
  | [] => rfl
  | x :: l => by rw [List.flatMap_cons, List.length_append, rjC_len l, List.length_cons]; simp [rjC]; omega
theorem flC_one : ∀ l : List Fl, ∀ u ∈ l.flatMap flC, u.oneCell' = true := fun l u hu => by
  obtain ⟨s, _, hs⟩ := List.mem_flatMap.1 hu
  unfold flC at hs
  simp only [List.mem_cons, List.not_mem_nil, or_false] at hs
  rcases hs with rfl | rfl | rfl | rfl | rfl <;> rfl
theorem rjC_one : ∀ l : List Rj, ∀ u ∈ l.flatMap rjC, u.oneCell' = true := fun l u hu => by
  obtain ⟨s, _, hs⟩ := List.mem_flatMap.1 hu
  unfold rjC at hs
  simp only [List.mem_cons, List.not_mem_nil, or_false] at hs
  rcases hs with rfl | rfl <;> rfl
theorem Small.fl5 {d : Df} (h : Small d) : d.follows.length ≤ 100000 := by have := h.rl; omega
theorem Small.rl5 {d : Df} (h : Small d) : d.rejects.length ≤ 100000 := by have := h.rl; omega
theorem symsC_one : ∀ l : List Sy, ∀ u ∈ symsC l, u.oneCell' = true := fun l u hu => by
  unfold symsC at hu
  obtain ⟨s, _, hs⟩ := List.mem_flatMap.1 hu
  unfold syC at hs
  simp only [List.mem_cons, List.not_mem_nil, or_false] at hs
  rcases hs with rfl | rfl | rfl | rfl | rfl | rfl | rfl | rfl <;> rfl
theorem symsC_len : ∀ l : List Sy, (symsC l).length = l.length * 8
  | [] => rfl
  | x :: l => by
    have := symsC_len l
    unfold symsC at this ⊢
    rw [List.flatMap_cons, List.length_append, this, List.length_cons]
    simp [syC]; omega
set_option maxHeartbeats 6400000 in
set_option maxRecDepth 100000 in
theorem Copy_any (d : Df) (a2 : Option Addr) (c2 : Nat) (a3 : Option Addr) (c3 : Nat) (a4 : Option Addr) (c4 : Nat) (a5 : Option Addr) (c5 : Nat) (a6 : Option Addr) (c6 : Nat) (w : World) (hd : RD d ⟨a2, c2, a3, c3, a4, c4, a5, c5, a6, c6⟩ w) (hf : FitD d) : Calls Try.prog 13 #[.agg #[.string d.start, .string d.layout, .slice a2 d.prods.length c2, .slice a3 d.chains.length c3, .slice a4 d.follows.length c4, .slice a5 d.rejects.length c5, .slice a6 d.boxes.length c6]] w (CpyP d w) := by
  obtain ⟨i38, hi38, hz38, hy38, hw38⟩ := info_parts info38
  obtain ⟨i48, hi48, hz48, hy48, hw48⟩ := info_parts info48
  obtain ⟨i50, hi50, hz50, hy50, hw50⟩ := info_parts info50
  obtain ⟨i53, hi53, hz53, hy53, hw53⟩ := info_parts info53
  obtain ⟨i61, hi61, hz61, hy61, hw61⟩ := info_parts info61
  obtain ⟨i66, hi66, hz66, hy66, hw66⟩ := info_parts info66
  obtain ⟨i68, hi68, hz68, hy68, hw68⟩ := info_parts info68
  obtain ⟨i9, hi9, hz9, hy9, hw9⟩ := info_parts info9
  have HF := hide hf
  have HBA := hide (NB.alloc (NB.alloc (Below.refl w.heap.size w) (.cells #[.string d.start, .string d.layout, .slice a2 d.prods.length c2, .slice a3 d.chains.length c3, .slice a4 d.follows.length c4, .slice a5 d.rejects.length c5, .slice a6 d.boxes.length c6] 28)) (.cells #[.string ⟨#[]⟩, .string ⟨#[]⟩, .slice none 0 0, .slice none 0 0, .slice none 0 0, .slice none 0 0, .slice none 0 0] 28))
  have HX0 := hide ((Blk.new w #[.string d.start, .string d.layout, .slice a2 d.prods.length c2, .slice a3 d.chains.length c3, .slice a4 d.follows.length c4, .slice a5 d.rejects.length c5, .slice a6 d.boxes.length c6] 28).alloc (.cells #[.string ⟨#[]⟩, .string ⟨#[]⟩, .slice none 0 0, .slice none 0 0, .slice none 0 0, .slice none 0 0, .slice none 0 0] 28))
  have HO0 := hide (NB.new1 (W := w) (o := .cells #[.string d.start, .string d.layout, .slice a2 d.prods.length c2, .slice a3 d.chains.length c3, .slice a4 d.follows.length c4, .slice a5 d.rejects.length c5, .slice a6 d.boxes.length c6] 28) (c := #[.string ⟨#[]⟩, .string ⟨#[]⟩, .slice none 0 0, .slice none 0 0, .slice none 0 0, .slice none 0 0, .slice none 0 0]) (t := 28))
  have HD := hide (hd.below HBA.out)
  have hl2 := hd.p.1
  have hl3 := hd.c.1
  have hl4 := hd.f.1
  have hl5 := hd.j.1
  have hl6 := hd.x.1
  clear hd hf
  go_enter Try.func13, Try.ntmps13
  go_upto_region 1 with fail
  obtain ⟨kx, hkx⟩ : ∃ kx, w.heap.size = kx := ⟨_, rfl⟩
  obtain ⟨w1, h1⟩ : ∃ w1, (w.alloc (.cells #[.string d.start, .string d.layout, .slice a2 d.prods.length c2, .slice a3 d.chains.length c3, .slice a4 d.follows.length c4, .slice a5 d.rejects.length c5, .slice a6 d.boxes.length c6] 28)).alloc (.cells #[.string ⟨#[]⟩, .string ⟨#[]⟩, .slice none 0 0, .slice none 0 0, .slice none 0 0, .slice none 0 0, .slice none 0 0] 28) = w1 := ⟨_, rfl⟩
  rw [h1] at HD HBA HX0 HO0 ⊢
  rw [hkx] at HX0 HO0 ⊢
  have HKX := hide hkx
  clear h1 hkx
  have x0 := HX0.out.cell 0
  have x1 := HX0.out.cell 1
  have xl := HX0.out.lt
  go_upto_region 2 with fail
  obtain ⟨kz, hkz⟩ : ∃ kz, w1.heap.size = kz := ⟨_, rfl⟩
  obtain ⟨w2, h2⟩ : ∃ w2, w1.alloc (.cells #[.string d.start, .string d.layout, .slice none 0 0, .slice none 0 0, .slice none 0 0, .slice none 0 0, .slice none 0 0] 28) = w2 := ⟨_, rfl⟩
  have HT := hide (show CpS d w1 kz 0 0 0 0 0 (.slice none 0 0) (.slice none 0 0) (.slice none 0 0) (.slice none 0 0) (.slice none 0 0) [] [] [] [] [] w2 from by
    rw [← h2]
    exact ⟨NB.alloc (Below.refl _ _) _, by omega, by rw [← hkz]; exact Blk.new w1 _ _, OwnE.nil _ _ _ _, OwnE.nil _ _ _ _, OwnE.nil _ _ _ _, OwnE.nil _ _ _ _, OwnE.nil _ _ _ _⟩)
  have HKZ := hide hkz
  rw [h2, hkz]
  clear h2 hkz x0 x1 xl
  go_wp2_with fail
  go_loopg [4] d.prods.length (fun u v4 wr => ∃ k v css, Hid (u = d.prods.length - k) ∧ v4 = .int .i64 (k : Int) ∧ Hid (k ≤ d.prods.length ∧ CpS d w1 kz k 0 0 0 0 v (.slice none 0 0) (.slice none 0 0) (.slice none 0 0) (.slice none 0 0) css [] [] [] [] wr))
  case atStart => exact ⟨0, _, _, hide rfl, rfl, hide ⟨Nat.zero_le _, HT.out⟩⟩
  case round =>
    obtain ⟨k, v, css, hu, rfl, hh⟩ := hrel
    have hkl := hh.out.1
    have HBW := hide hh.out.2.g
    have hxk := HX0.out.below HBW.out
    have q2 := hxk.cell 2
    have ql := hxk.lt
    clear hxk
    by_cases hlt : k < d.prods.length
    · have hlti : (k : Int) < (d.prods.length : Int) := by omega
      obtain ⟨b, o, rfl, hb, hat⟩ := HD.out.p.get hlt
      have hx1 := hat k hlt
      have HTK := hide (take_snoc d.prods k hlt)
      have HSL := hide (HF.out.s.sl5 _ (List.getElem_mem hlt))
      generalize d.prods[k] = x at hx1 HTK HSL
      clear hat
      obtain ⟨lx, so, cn, br, sy⟩ := x
      obtain ⟨hok, ap, cp, hca, hrw, hcp⟩ := hx1
      have e0 := (HBW.out.cell (p := ⟨b, o + k * 5, none⟩) hb).trans (hca 0 _ rfl)
      have e1 := (HBW.out.cell (p := ⟨b, o + k * 5 + 1, none⟩) hb).trans (hca 1 _ rfl)
      have e2 := (HBW.out.cell (p := ⟨b, o + k * 5 + 2, none⟩) hb).trans (hca 2 _ rfl)
      have e3 := (HBW.out.cell (p := ⟨b, o + k * 5 + 3, none⟩) hb).trans (hca 3 _ rfl)
      have e4 := (HBW.out.cell (p := ⟨b, o + k * 5 + 4, none⟩) hb).trans (hca 4 _ rfl)
      have hbw : b < wr.heap.size := Nat.lt_of_lt_of_le hb HBW.out.size
      have HOKP := hide hok
      have HRW := hide hrw
      have hsl : sy.length ≤ 100000 := HSL.out
      have hsl2 := hrw.1
      have HTS := hide hh.out.2
      have hcl : css.length + 1 ≤ 100001 := by have h1 := hh.out.2.p.len; rw [List.length_take] at h1; have := HF.out.s.pl5; omega
      clear hok hca hrw hcp hh
      go_upto_region 7 with fail
      obtain ⟨kp, hkp⟩ : ∃ kp, wr.heap.size = kp := ⟨_, rfl⟩
      obtain ⟨w6, h6⟩ : ∃ w6, wr.alloc (.cells #[.bool lx, .string so, .string cn, .bool br, .slice ap sy.length cp] 38) = w6 := ⟨_, rfl⟩
      have HB6 := hide (show Below wr.heap.size wr w6 by rw [← h6]; exact NB.alloc (Below.refl _ _) _)
      have HP6 := hide (show Blk w6 kp #[.bool lx, .string so, .string cn, .bool br, .slice ap sy.length cp] 38 by rw [← h6, ← hkp]; exact Blk.new wr _ _)
      have HKP := hide hkp
      rw [h6, hkp]
      clear h6 hkp e0 e1 e2 e3 e4 q2 ql hb hbw
      have p4 := HP6.out.cell 4
      have pl := HP6.out.lt
      have HSR := hide (sySrcs (HRW.out.below SyAt.stable (below_next HBW.out HB6.out)))
      go_upto_region 9 with (at_builtin; refine wpList_append_src rfl _ _ 36 rfl w6.heap.size 61 i61 _ 8 88 Try.underlying36 hi61 hz61 hy61 hw61 rfl (by decide) (.slice none 0 0) 0 [] rfl (World.ownsRow_nil _ _ _ _) ap sy.length cp (symsC sy) rfl HSR.out (symsC_len sy) (symsC_one sy) (by unfold maxLen; omega) (by omega) (Nat.le_refl _) ?_; intro v7 w7 ho7 hg7; rw [Nat.zero_add, List.nil_append] at ho7; obtain ⟨a9, c9, hv7, _⟩ := own_shape ho7; subst hv7; have HO7 := hide ho7; have HG7 := hide hg7; have HP7 := hide (HP6.out.grown hg7 (by intro e; cases e)); clear ho7 hg7 p4 pl; have p4 := HP7.out.cell 4; have pl := HP7.out.lt; have pf := HP7.out.free 4)
      have HP8 := hide (HP7.out.set 4 (.slice a9 sy.length c9))
      have HB7 := hide (HB6.out.grown HG7.out HB6.out.size (fun g e => by cases e))
      have HB8 := hide (HB7.out.setCell (by have := HKP.out; simp only; omega) (.slice a9 sy.length c9) : Below wr.heap.size wr (w7.setCell ⟨kp, 4, none⟩ (.slice a9 sy.length c9)))
      have HO8 := hide (own_set (i := 4) (u := .slice a9 sy.length c9) HO7.out HP7.out (by decide))
      have HTS8 := hide (HTS.out.below HB8.out)
      clear p4 pl pf HP7 HP6 HB6 HB7 HSR HG7 HO7 HTS
      generalize w7.setCell ⟨kp, 4, none⟩ (.slice a9 sy.length c9) = w8 at HP8 HB8 HO8 HTS8 ⊢
      have p0 := HP8.out.cell 0
      have p1 := HP8.out.cell 1
      have p2 := HP8.out.cell 2
      have p3 := HP8.out.cell 3
      have p4 := HP8.out.cell 4
      have pl := HP8.out.lt
      have z2 := HTS8.out.y.cell 2
      have zl := HTS8.out.y.lt
      have hown := HTS8.out.p.own
      have hbs := HTS8.out.g.size
      have HPU := hide (fun v' wz (ho : World.ownsRow wz w1.heap.size 38 5 v' (css.length + 1) (css.flatten ++ [.bool lx, .string so, .string cn, .bool br, .slice a9 sy.length c9])) (hg : (w8.alloc (.cells #[.bool lx, .string so, .string cn, .bool br, .slice a9 sy.length c9] 38)).grownBy wz v.ownBlock) => HTS8.out.pushP ho (NB.alloc (Below.refl w8.heap.size w8) _) hg rfl (show EP ⟨lx, so, cn, br, sy⟩ [.bool lx, .string so, .string cn, .bool br, .slice a9 sy.length c9] (w8.alloc (.cells #[.bool lx, .string so, .string cn, .bool br, .slice a9 sy.length c9] 38)) from ⟨_, rfl, HOKP.out, syOk HRW.out, own_base (HO8.out.alloc _) (Nat.zero_le _)⟩) HTK.out)
      clear HTS8
      go_wp2_with (at_builtin; refine wpList_append_own _ rfl _ _ 22 rfl w1.heap.size 38 i38 _ 5 72 Try.underlying22 hi38 hz38 hy38 hw38 rfl (by decide) v css.length css.flatten rfl (hown.alloc _) ⟨w8.heap.size, 0, none⟩ 1 1 [.bool lx, .string so, .string cn, .bool br, .slice a9 sy.length c9] rfl rfl (cells_at _ _ _ _ rfl) (by simp [Value.oneCell']) (by unfold maxLen; omega) (by omega) (by simp; omega) ?_; intro v' wz ho hg _; obtain ⟨hyz, hts⟩ := HPU.out v' wz ho hg; obtain ⟨g', cap', rfl⟩ := ownsRow_succ ho; have HTN := hide hts; clear ho hg hts p0 p1 p2 p3 p4 pl z2 zl hown HPU; have z2 := hyz.cell 2; have zl := hyz.lt; have zf := hyz.free 2; clear hyz)
      go_roundg (d.prods.length - (k + 1))
      case measure => rw [hu.out]; omega
      case rel => exact ⟨k + 1, _, _, hide rfl, by go_num, hide ⟨hlt, HTN.out⟩⟩
    · have hlti : ¬ (k : Int) < (d.prods.length : Int) := by omega
      have hke : k = d.prods.length := by omega
      subst hke
      have HT2 := hide hh.out.2
      obtain ⟨vP, rfl⟩ : ∃ x, x = v := ⟨_, rfl⟩
      obtain ⟨cP, rfl⟩ : ∃ x, x = css := ⟨_, rfl⟩
      clear HT hh hu HBW
      have q3 := (HX0.out.below HT2.out.g).cell 3
      go_wp2_with fail
      clear q2 q3 ql
      go_loopg [7, 8, 9] d.chains.length (fun u v7 v8 v9 wr => ∃ k v css, Hid (u = d.chains.length - k) ∧ v7 = .int .i64 (k : Int) ∧ Hid (k ≤ d.chains.length ∧ CpS d w1 kz d.prods.length k 0 0 0 vP v (.slice none 0 0) (.slice none 0 0) (.slice none 0 0) cP css [] [] [] wr))
      case atStart => exact ⟨0, _, _, hide rfl, rfl, hide ⟨Nat.zero_le _, HT2.out⟩⟩
      case round =>
        obtain ⟨k, v, css, hu, rfl, hh⟩ := hrel
        have hkl := hh.out.1
        have HBW := hide hh.out.2.g
        have q3 := (HX0.out.below HBW.out).cell 3
        have ql := (HX0.out.below HBW.out).lt
        by_cases hlt : k < d.chains.length
        · have hlti : (k : Int) < (d.chains.length : Int) := by omega
          obtain ⟨b, o, rfl, hb, hat⟩ := HD.out.c.get hlt
          have hx1 := hat k hlt
          rw [Nat.mul_one] at hx1
          have HTK := hide (take_snoc d.chains k hlt)
          have HGL := hide (HF.out.gl _ (List.getElem_mem hlt))
          have HNL := hide (HF.out.nl _ (List.getElem_mem hlt))
          generalize d.chains[k] = ch at hx1 HTK HGL HNL
          clear hat
          obtain ⟨ac, cc, hca, hrw⟩ := hx1
          have HCA := hide (show ∀ W, Below w1.heap.size w1 W → W.cell? ⟨b, o + k, none⟩ = some (.slice ac ch.length cc) from fun W h => (h.cell (p := ⟨b, o + k, none⟩) hb).trans hca)
          have HBL := hide hb
          have HRW := hide hrw
          have hgl : ch.length ≤ 100000 := HGL.out
          have hgl2 := hrw.1
          have HTS := hide hh.out.2
          have hcl : css.length + 1 ≤ 100001 := by have h1 := hh.out.2.c.len; rw [List.length_take] at h1; have := HF.out.cl; omega
          clear hca hrw hh hb
          obtain ⟨wo, rfl⟩ : ∃ wo : World, wo = wr := ⟨_, rfl⟩
          go_wp2_with fail
          clear q3 ql
          go_loopg [8, 9] ch.length (fun u v8 v9 wq => ∃ j css', Hid (u = ch.length - j) ∧ v9 = .int .i64 (j : Int) ∧ Hid (j ≤ ch.length ∧ Below wo.heap.size wo wq ∧ OwnE EG wo.heap.size 68 2 (ch.take j) v8 css' wq))
          case atStart => exact ⟨0, [], hide rfl, rfl, hide ⟨Nat.zero_le _, Below.refl _ _, OwnE.nil _ _ _ _⟩⟩
          case round =>
            obtain ⟨j, css', hv, rfl, hq⟩ := hrel
            have hjl := hq.out.1
            have HBQ := hide (below_next HBW.out hq.out.2.1)
            have q3 := (HX0.out.below HBQ.out).cell 3
            have ql := (HX0.out.below HBQ.out).lt
            have f0 := HCA.out _ HBQ.out
            have hb1 := Nat.lt_of_lt_of_le HBL.out HBQ.out.size
            by_cases hltj : j < ch.length
            · have hltji : (j : Int) < (ch.length : Int) := by omega
              obtain ⟨b2, o2, rfl, hb2, hat2⟩ := HRW.out.get hltj
              have hx2 := hat2 j hltj
              have HTJ := hide (take_snoc ch j hltj)
              have HNG := hide (HNL.out _ (List.getElem_mem hltj))
              generalize ch[j] = g at hx2 HTJ HNG
              clear hat2
              obtain ⟨as0, co⟩ := g
              obtain ⟨has, ag, cg, hcg, hrg⟩ := hx2
              have HAS := hide has
              have HC0 := hide (show ∀ W, Below w1.heap.size w1 W → W.cell? ⟨b2, o2 + j * 2, none⟩ = some (.int .i64 as0) from fun W h => (h.cell (p := ⟨b2, o2 + j * 2, none⟩) hb2).trans (hcg 0 _ rfl))
              have HC1 := hide (show ∀ W, Below w1.heap.size w1 W → W.cell? ⟨b2, o2 + j * 2 + 1, none⟩ = some (.slice ag co.length cg) from fun W h => (h.cell (p := ⟨b2, o2 + j * 2 + 1, none⟩) hb2).trans (hcg 1 _ rfl))
              have HBL2 := hide hb2
              have HRG := hide hrg
              have hng : co.length ≤ 100000 := HNG.out
              have hng2 := hrg.1
              have g0 := HC0.out _ HBQ.out
              have hb2w := Nat.lt_of_lt_of_le hb2 HBQ.out.size
              have hrv : ((wr.alloc (.cells #[.int .i64 as0, .slice none 0 0] 68)).heap.size : Nat) = wr.heap.size + 1 := by simp
              have HQ := hide hq.out
              have hcl2 : css'.length + 1 ≤ 100001 := by have h1 := hq.out.2.2.len; rw [List.length_take] at h1; omega
              clear has hcg hrg hb2 hq hrv
              go_upto_region 18 with fail
              obtain ⟨kg, hkg⟩ : ∃ kg, wr.heap.size = kg := ⟨_, rfl⟩
              obtain ⟨w6, h6⟩ : ∃ w6, wr.alloc (.cells #[.int .i64 as0, .slice none 0 0] 68) = w6 := ⟨_, rfl⟩
              have HB6 := hide (show Below wr.heap.size wr w6 by rw [← h6]; exact NB.alloc (Below.refl _ _) _)
              have HG6 := hide (show Blk w6 kg #[.int .i64 as0, .slice none 0 0] 68 by rw [← h6, ← hkg]; exact Blk.new wr _ _)
              have HKG := hide hkg
              rw [h6, hkg]
              clear h6 hkg f0 g0 q3 ql hb1 hb2w
              go_cut [] from 68 to 80 (fun wc => ∃ a9 c9, Hid (Below wr.heap.size wr wc ∧ Blk wc kg #[.int .i64 as0, .slice a9 co.length c9] 68 ∧ wc.ownsRow wr.heap.size 9 1 (.slice a9 co.length c9) co.length (strsC co)))
              case first =>
                have HB16 := hide (below_next HBQ.out HB6.out)
                have q3 := (HX0.out.below HB16.out).cell 3
                have ql := (HX0.out.below HB16.out).lt
                have f0 := HCA.out _ HB16.out
                have hb1 := Nat.lt_of_lt_of_le HBL.out HB16.out.size
                have g1 := HC1.out _ HB16.out
                have hb2w := Nat.lt_of_lt_of_le HBL2.out HB16.out.size
                have p1 := HG6.out.cell 1
                have pl := HG6.out.lt
                have HSR := hide (show ∀ W, Below w6.heap.size w6 W → Srcs ag co.length (strsC co) W from fun W h => strSrcs (HRG.out.below StrAt.stable (below_next HB16.out h)))
                have HST := hide (show ∀ v' wz, wz.ownsRow wr.heap.size 9 1 v' co.length (strsC co) → w6.drew.grownBy wz none → Blk wz kg #[.int .i64 as0, .slice none 0 0] 68 ∧ (Below wr.heap.size wr (wz.setCell ⟨kg, 1, none⟩ v') ∧ Blk (wz.setCell ⟨kg, 1, none⟩ v') kg #[.int .i64 as0, v'] 68 ∧ (wz.setCell ⟨kg, 1, none⟩ v').ownsRow wr.heap.size 9 1 v' co.length (strsC co)) from fun v' wz ho hg => by
                  have hgb : Blk wz kg #[.int .i64 as0, .slice none 0 0] 68 := (show Blk w6.drew kg _ 68 from HG6.out).grown hg (by intro e; cases e)
                  refine ⟨hgb, ?_, hgb.set 1 v', own_set ho hgb (by decide)⟩
                  exact ((HB6.out.drew).grown hg HB6.out.size (fun g e => by cases e)).setCell (by have := HKG.out; simp only; omega) v')
                go_region_law (refine step_append_src rfl (.tmp 69) (.tmp 78) 56 rfl wr.heap.size 9 i9 _ 1 16 Try.underlying56 hi9 hz9 hy9 hw9 rfl (by decide) (.slice none 0 0) 0 [] (by simp [Act.eval, Act.put]) (World.ownsRow_nil _ _ _ _) ag co.length cg (strsC co) (by simp [Act.eval, Act.put]) (HSR.out _ (Below.refl w6.heap.size w6).drew) (by unfold strsC; simp) strsC_one (by unfold maxLen; omega) (by omega) (by have := HB6.out.size; simp; omega) ?_; intro v' wz hown' hgrow; rw [Nat.zero_add, List.nil_append] at hown'; obtain ⟨a9, c9, hv9, _⟩ := own_shape hown'; subst hv9; obtain ⟨hgz, hpr⟩ := HST.out _ _ hown' hgrow; have HPR := hide hpr; have r1 := hgz.cell 1; have rl := hgz.lt; have rf := hgz.free 1; clear hown' hgrow hgz hpr)
                all_goals
                  go_wp2_with fail
                  go_meet
                  first
                  | exact ⟨a9, c9, HPR⟩
                  | exact ⟨a9, c9, hide ⟨HPR.out.1.drew, HPR.out.2.1, HPR.out.2.2⟩⟩
              case rest =>
                obtain ⟨a9, c9, hc⟩ := hcut
                have HC := hide hc.out
                have HOW := hide (HQ.out.2.2.touch (Touch.of_below (t := 28) HC.out.1) (by decide) (EG.st (by decide)))
                have hown := HOW.out.own
                have p0 := HC.out.2.1.cell 0
                have p1 := HC.out.2.1.cell 1
                have pl := HC.out.2.1.lt
                have hbs := (below_next HQ.out.2.1 HC.out.1).size
                have HPU := hide (fun v' wz (ho : World.ownsRow wz wo.heap.size 68 2 v' (css'.length + 1) (css'.flatten ++ [.int .i64 as0, .slice a9 co.length c9])) (hg : (wc.alloc (.cells #[.int .i64 as0, .slice a9 co.length c9] 68)).grownBy wz u8.ownBlock) => (show OwnE EG wo.heap.size 68 2 (ch.take j ++ [⟨as0, co⟩]) v' (css' ++ [[.int .i64 as0, .slice a9 co.length c9]]) wz from
                  (HOW.out.touch (Touch.of_below (t := 28) (NB.alloc (Below.refl wc.heap.size wc) (.cells #[.int .i64 as0, .slice a9 co.length c9] 68))) (by decide) (EG.st (by decide))).push ho rfl rfl (Touch.of_own (own_below HOW.out.own (NB.alloc (Below.refl wc.heap.size wc) (.cells #[.int .i64 as0, .slice a9 co.length c9] 68))) hg) (EG.st (by decide)) (show EG ⟨as0, co⟩ [.int .i64 as0, .slice a9 co.length c9] (wc.alloc (.cells #[.int .i64 as0, .slice a9 co.length c9] 68)) from ⟨_, rfl, HAS.out, own_base (HC.out.2.2.alloc _) (Nat.zero_le _), strShort HRG.out⟩)))
                clear hc
                go_wp2_with (at_builtin; refine wpList_append_own _ rfl _ _ 66 rfl wo.heap.size 68 i68 _ 2 32 Try.underlying66 hi68 hz68 hy68 hw68 rfl (by decide) u8 css'.length css'.flatten rfl (hown.alloc _) ⟨wc.heap.size, 0, none⟩ 1 1 [.int .i64 as0, .slice a9 co.length c9] rfl rfl (cells_at _ _ _ _ rfl) (by simp [Value.oneCell']) (by unfold maxLen; omega) (by omega) (by simp; omega) ?_; intro v' wz ho hg _; have HTN := hide (HPU.out v' wz ho hg); have HBZ := hide (show Below wo.heap.size wo wz from ((below_next HQ.out.2.1 HC.out.1).alloc (below_next HQ.out.2.1 HC.out.1).size (.cells #[.int .i64 as0, .slice a9 co.length c9] 68)).grown hg (by have := (below_next HQ.out.2.1 HC.out.1).size; simp; omega) (fun g hgg => own_block_ge HOW.out.own g hgg)); clear ho hg p0 p1 pl hown HPU)
                go_roundg (ch.length - (j + 1))
                case measure => rw [hv.out]; omega
                case rel => exact ⟨j + 1, _, hide rfl, by go_num, hide ⟨hltj, HBZ.out, by rw [HTJ.out]; exact HTN.out⟩⟩
            · have hltji : ¬ (j : Int) < (ch.length : Int) := by omega
              have HQE := hide hq.out.2.2
              rw [List.take_of_length_le (by omega)] at HQE
              have HBQ2 := hide hq.out.2.1
              obtain ⟨a10, c10, hu8, _⟩ := own_shape HQE.out.own
              subst hu8
              have HTS2 := hide (HTS.out.below HBQ2.out)
              have z3 := HTS2.out.y.cell 3
              have zl := HTS2.out.y.lt
              have hown := HTS2.out.c.own
              have hbs := HTS2.out.g.size
              have HPU := hide (fun v' wz (ho : World.ownsRow wz w1.heap.size 66 1 v' (css.length + 1) (css.flatten ++ [.slice a10 css'.length c10])) (hg : (wr.alloc (.cells #[.slice a10 css'.length c10] 66)).grownBy wz v.ownBlock) => HTS2.out.pushC ho (NB.alloc (Below.refl wr.heap.size wr) _) hg rfl (show EC ch [.slice a10 css'.length c10] (wr.alloc (.cells #[.slice a10 css'.length c10] 66)) from ⟨_, css', rfl, (HQE.out.touch (Touch.of_below (t := 28) (NB.alloc (Below.refl wr.heap.size wr) _)) (by decide) (EG.st (by decide))).base (Nat.zero_le _)⟩) HTK.out)
              clear hq HTS2
              go_wp2_with (at_builtin; refine wpList_append_own _ rfl _ _ 23 rfl w1.heap.size 66 i66 _ 1 24 Try.underlying23 hi66 hz66 hy66 hw66 rfl (by decide) v css.length css.flatten rfl (hown.alloc _) ⟨wr.heap.size, 0, none⟩ 1 1 [.slice a10 css'.length c10] rfl rfl (cells_at _ _ _ _ rfl) (by simp [Value.oneCell']) (by unfold maxLen; omega) (by omega) (by simp; omega) ?_; intro v' wz ho hg _; obtain ⟨hyz, hts⟩ := HPU.out v' wz ho hg; obtain ⟨g', cap', rfl⟩ := ownsRow_succ ho; have HTN := hide hts; clear ho hg hts z3 zl hown HPU; have z3 := hyz.cell 3; have zl := hyz.lt; have zf := hyz.free 3; clear hyz)
              go_roundg (d.chains.length - (k + 1))
              case measure => rw [hu.out]; omega
              case rel => exact ⟨k + 1, _, _, hide rfl, by go_num, hide ⟨hlt, HTN.out⟩⟩
        · have hlti : ¬ (k : Int) < (d.chains.length : Int) := by omega
          have hke : k = d.chains.length := by omega
          subst hke
          have HT3 := hide hh.out.2
          obtain ⟨vC, rfl⟩ : ∃ x, x = v := ⟨_, rfl⟩
          obtain ⟨cC, rfl⟩ : ∃ x, x = css := ⟨_, rfl⟩
          clear HT2 hh hu HBW
          have q4 := (HX0.out.below HT3.out.g).cell 4
          have z4 := HT3.out.y.cell 4
          have zl := HT3.out.y.lt
          have hlF := HF.out.s.fl5
          have hlR := HF.out.s.rl5
          have HSF := hide (flSrcs (HD.out.f.below FlAt.stable HT3.out.g))
          have HSZ := hide HT3.out.g.size
          go_upto_region 22 with (at_builtin; refine wpList_append_src rfl _ _ 24 rfl w1.heap.size 48 i48 _ 5 48 Try.underlying24 hi48 hz48 hy48 hw48 rfl (by decide) (.slice none 0 0) 0 [] rfl (World.ownsRow_nil _ _ _ _) a4 d.follows.length c4 (d.follows.flatMap flC) rfl HSF.out (flC_len _) (flC_one _) (by unfold maxLen; omega) (by omega) HSZ.out ?_; intro v7 wz ho7 hg7; rw [Nat.zero_add, List.nil_append] at ho7; obtain ⟨a9, c9, hv7, _⟩ := own_shape ho7; subst hv7; obtain ⟨hyz, hts⟩ := CpS.allF (kF := 0) (vF := .slice none 0 0) (cF := []) HT3.out ho7 hg7 (flOk HD.out.f); have HT4 := hide hts; clear ho7 hg7 hts q3 q4 ql z4 zl; have z4 := hyz.cell 4; have zl := hyz.lt; have zf := hyz.free 4; clear hyz)
          clear z4 zl zf HSF HSZ HT3
          generalize wz.setCell ⟨kz, 4, none⟩ (.slice a9 d.follows.length c9) = w8 at HT4 ⊢
          have q5 := (HX0.out.below HT4.out.g).cell 5
          have ql := (HX0.out.below HT4.out.g).lt
          have z5 := HT4.out.y.cell 5
          have zl := HT4.out.y.lt
          have HSR := hide (rjSrcs (HD.out.j.below RjAt.stable HT4.out.g))
          have HSZ := hide HT4.out.g.size
          go_upto_region 23 with (at_builtin; refine wpList_append_src rfl _ _ 25 rfl w1.heap.size 50 i50 _ 2 32 Try.underlying25 hi50 hz50 hy50 hw50 rfl (by decide) (.slice none 0 0) 0 [] rfl (World.ownsRow_nil _ _ _ _) a5 d.rejects.length c5 (d.rejects.flatMap rjC) rfl HSR.out (rjC_len _) (rjC_one _) (by unfold maxLen; omega) (by omega) HSZ.out ?_; intro v8 wy ho8 hg8; rw [Nat.zero_add, List.nil_append] at ho8; obtain ⟨a11, c11, hv8, _⟩ := own_shape ho8; subst hv8; obtain ⟨hyz, hts⟩ := CpS.allR (kR := 0) (vR := .slice none 0 0) (cR := []) HT4.out ho8 hg8 (rjOk HD.out.j); have HT5 := hide hts; clear ho8 hg8 hts q5 ql z5 zl; have z5 := hyz.cell 5; have zl := hyz.lt; have zf := hyz.free 5; clear hyz)
          clear z5 zl zf HSR HSZ HT4
          generalize wy.setCell ⟨kz, 5, none⟩ (.slice a11 d.rejects.length c11) = w9 at HT5 ⊢
          have q6 := (HX0.out.below HT5.out.g).cell 6
          have ql := (HX0.out.below HT5.out.g).lt
          go_wp2_with fail
          clear q6 ql
          go_loopg [11] d.boxes.length (fun u v11 wr => ∃ k v css, Hid (u = d.boxes.length - k) ∧ v11 = .int .i64 (k : Int) ∧ Hid (k ≤ d.boxes.length ∧ CpS d w1 kz d.prods.length d.chains.length d.follows.length d.rejects.length k vP vC (.slice a9 d.follows.length c9) (.slice a11 d.rejects.length c11) v cP cC (d.follows.map flC) (d.rejects.map rjC) css wr))
          case atStart => exact ⟨0, _, _, hide rfl, rfl, hide ⟨Nat.zero_le _, HT5.out⟩⟩
          case round =>
            obtain ⟨k, v, css, hu, rfl, hh⟩ := hrel
            have hkl := hh.out.1
            have HBW := hide hh.out.2.g
            have q6 := (HX0.out.below HBW.out).cell 6
            have ql := (HX0.out.below HBW.out).lt
            by_cases hlt : k < d.boxes.length
            · have hlti : (k : Int) < (d.boxes.length : Int) := by omega
              obtain ⟨b, o, rfl, hb, hat⟩ := HD.out.x.get hlt
              have hx1 := hat k hlt
              have HTK := hide (take_snoc d.boxes k hlt)
              have HFX := hide (HF.out.bx _ (List.getElem_mem hlt))
              generalize d.boxes[k] = x at hx1 HTK HFX
              clear hat
              obtain ⟨cn, its⟩ := x
              obtain ⟨hcn, ai, ci, hca, hri⟩ := hx1
              have HCN := hide hcn
              have hil := hri.1
              have HE := hide (show ∀ W, Below w1.heap.size w1 W → W.cell? ⟨b, o + k * 2, none⟩ = some (.string cn) ∧ W.cell? ⟨b, o + k * 2 + 1, none⟩ = some (.slice ai its.length ci) ∧ b < W.heap.size from fun W h => ⟨(h.cell (p := ⟨b, o + k * 2, none⟩) hb).trans (hca 0 _ rfl), (h.cell (p := ⟨b, o + k * 2 + 1, none⟩) hb).trans (hca 1 _ rfl), Nat.lt_of_lt_of_le hb h.size⟩)
              have HTS := hide hh.out.2
              have hcl : css.length + 1 ≤ 100001 := by have h1 := hh.out.2.b.len; rw [List.length_take] at h1; have := HF.out.s.bl; omega
              obtain ⟨e0, e1, hbw⟩ := HE.out _ HBW.out
              have z6 := HTS.out.y.cell 6
              have zl := HTS.out.y.lt
              have zf := HTS.out.y.free 6
              have hbs := HTS.out.g.size
              have HS := hide (fun (W : World) (h : Below w1.heap.size w1 W) => (show (Hid (Below w1.heap.size w1 W) ∧ kx < W.heap.size ∧ W.cell? ⟨kx, 6, none⟩ = some (.slice (some ⟨b, o, none⟩) d.boxes.length c6) ∧ b < W.heap.size ∧ W.cell? ⟨b, o + k * 2, none⟩ = some (.string cn) ∧ W.cell? ⟨b, o + k * 2 + 1, none⟩ = some (.slice ai its.length ci)) from
                have hx := HX0.out.below h
                have hf := HE.out W h
                ⟨hide h, hx.lt, hx.cell 6, hf.2.2, hf.1, hf.2.1⟩))
              have HB1W := hide HBW.out
              have HKZ1 := hide HTS.out.z
              have HXS := hide (show Calls Try.prog 33 #[.slice ai its.length ci] wr.drew fun e w3 => ∃ vj, e = .returned vj ∧ ∃ an nn cc css9, vj = .slice an nn cc ∧ Hid (OwnE (EIt (fun _ => True)) 0 96 4 its (.slice an nn cc) css9 w3 ∧ Below wr.heap.size wr w3) ∧ w3.cell? ⟨kz, 6, none⟩ = some v ∧ kz < w3.heap.size ∧ w3.frozen? ⟨kz, 6, none⟩ = false ∧ (fun W => (Hid (Below w1.heap.size w1 W) ∧ kx < W.heap.size ∧ W.cell? ⟨kx, 6, none⟩ = some (.slice (some ⟨b, o, none⟩) d.boxes.length c6) ∧ b < W.heap.size ∧ W.cell? ⟨b, o + k * 2, none⟩ = some (.string cn) ∧ W.cell? ⟨b, o + k * 2 + 1, none⟩ = some (.slice ai its.length ci))) w3 ∧ w1.heap.size ≤ w3.heap.size ∧ w3.ownsRow w1.heap.size 53 2 v css.length css.flatten from
                (copyItems_all _ its (Nat.lt_succ_self _) HFX.out ai ci wr.drew (hri.below ItAt.stable HBW.out.drew)).mono (fun e w3 h => by
                  obtain ⟨vj, css9, rfl, h1, h2⟩ := h
                  have h3 : Below wr.heap.size wr w3 := below_next (Below.refl wr.heap.size wr).drew h2
                  have h4 := HTS.out.below h3
                  obtain ⟨an, cc, rfl, _⟩ := own_shape h1.own
                  exact ⟨_, rfl, an, _, cc, css9, rfl, hide ⟨(h1.base (Nat.zero_le _)).keep (own_base h1.own (Nat.zero_le _)) (fun x cs he => EIt.keep x cs w3 w3 (fun _ _ _ h => h) (fun _ _ _ => trivial) he), h3⟩, h4.y.cell 6, h4.y.lt, h4.y.free 6, HS.out w3 h4.g, h4.g.size, h4.b.own⟩))
              have HST := hide (fun (w3 w4 : World) (v' : Value) (an : Option Addr) (nn cc : Nat) (css9 : List (List Value)) (h1 : Hid (OwnE (EIt (fun _ => True)) 0 96 4 its (.slice an nn cc) css9 w3 ∧ Below wr.heap.size wr w3)) (ho : World.ownsRow w4 w1.heap.size 53 2 v' (css.length + 1) (css.flatten ++ [.string cn, .slice an nn cc])) (hg : (w3.alloc (.cells #[.string cn, .slice an nn cc] 53)).grownBy w4 v.ownBlock) => HTS.out.pushB ho (h1.out.2.alloc h1.out.2.size (.cells #[.string cn, .slice an nn cc] 53)) hg rfl (show EB ⟨cn, its⟩ [.string cn, .slice an nn cc] (w3.alloc (.cells #[.string cn, .slice an nn cc] 53)) from ⟨_, css9, rfl, HCN.out, h1.out.1.touch (Touch.of_below (t := 28) (NB.alloc (Below.refl w3.heap.size w3) _)) (by decide) (EIt.st (by decide))⟩) HTK.out)
              clear hcn hca hri hh hb
              go_upto_block 7 with fail
              go_cut [] from 110 to 128 (fun wc => ∃ v' css', Hid (CpS d w1 kz d.prods.length d.chains.length d.follows.length d.rejects.length (k + 1) vP vC (.slice a9 d.follows.length c9) (.slice a11 d.rejects.length c11) v' cP cC (d.follows.map flC) (d.rejects.map rjC) css' wc))
              case first =>
                clear HTK HFX HF HD HX0 HO0 HBA HKX HKZ HT5 HBW HCN HE HTS hl2 hl3 hl4 hl5 hil hlF hlR hkl hu
                clear hi38 hz38 hy38 hw38 hi48 hz48 hy48 hw48 hi50 hz50 hy50 hw50 hi61 hz61 hy61 hw61 hi66 hz66 hy66 hw66 hi68 hz68 hy68 hw68 hi9 hz9 hy9 hw9
                have hbd : Below w1.heap.size w1 wr.drew := HB1W.out.drew
                have hs0 := HS.out _ hbd
                go_upto_region 26 with fail
                refine wp_region_lex 17 [(0, true), (1, true), (2, true), (3, true), (4, true), (5, true), (6, true), (7, true), (8, true), (9, true), (10, true), (11, true), (12, true), (13, true), (14, false), (15, true), (16, false)] (fun W => (Hid (Below w1.heap.size w1 W) ∧ kx < W.heap.size ∧ W.cell? ⟨kx, 6, none⟩ = some (.slice (some ⟨b, o, none⟩) d.boxes.length c6) ∧ b < W.heap.size ∧ W.cell? ⟨b, o + k * 2, none⟩ = some (.string cn) ∧ W.cell? ⟨b, o + k * 2 + 1, none⟩ = some (.slice ai its.length ci)) ∧ W.cell? ⟨kz, 6, none⟩ = some v) rfl (by kernel_rfl) (by kernel_rfl) (fun _ _ d _ _ h => by cases d <;> exact h) ⟨hs0, z6⟩ (fun hS0 => ?_)
                simp only [lexOps, List.filterMap_cons, List.filterMap_nil, List.getElem?_cons_zero, List.getElem?_cons_succ, Option.map_some, List.drop_succ_cons, List.drop_zero]
                repeat
                  refine wpLex_take (v := ?_) (by rfl) ?_ ?_
                  rotate_left
                  · intro w hSw
                    (try dsimp only at hSw)
                    go_simp
                    try with_reducible rfl
                  try simp only [Act.put, List.setIfInBounds_toArray, List.set_cons_zero, List.set_cons_succ]
                refine wpLex_step (fun K hK => ?_)
                go_simp
                refine HXS.out.mono ?_
                rintro e w3 ⟨vj, rfl, an, nn, cc, css9, rfl, h9, n6, nl, nf, hs3, ns, nown⟩
                refine hK _ _ ⟨hs3, n6⟩ (fun hS1 => ?_)
                try simp only [Act.put, List.setIfInBounds_toArray, List.set_cons_zero, List.set_cons_succ]
                repeat
                  refine wpLex_take (v := ?_) (by rfl) ?_ ?_
                  rotate_left
                  · intro w hSw
                    (try dsimp only at hSw)
                    go_simp
                    try with_reducible rfl
                  try simp only [Act.put, List.setIfInBounds_toArray, List.set_cons_zero, List.set_cons_succ]
                refine wpLex_step (fun K hK => ?_)
                go_simp
                refine hK _ _ ⟨HS.out _ (NB.alloc (Hid.out (And.left hs3)) _), ((NB.alloc (Below.refl w3.heap.size w3) _).cell (p := ⟨kz, 6, none⟩) nl).trans n6⟩ (fun hS2 => ?_)
                try simp only [Act.put, List.setIfInBounds_toArray, List.set_cons_zero, List.set_cons_succ]
                refine wpLex_nil ?_
                clear hS0 hS1 hS2
                go_wp2_with (at_builtin; refine wpList_append_own _ rfl _ _ 26 rfl w1.heap.size 53 i53 _ 2 40 Try.underlying26 hi53 hz53 hy53 hw53 rfl (by decide) _ _ css.flatten rfl (nown.alloc _) ⟨w3.heap.size, 0, none⟩ 1 1 [.string cn, .slice an nn cc] rfl rfl (cells_new _ [.string cn, .slice an nn cc] 53) (by simp [Value.oneCell']) (by unfold maxLen; omega) (by omega) (by simp; omega) ?_)
                intro v' w4 hown' hgrow _
                obtain ⟨hyz, hts⟩ := HST.out _ _ _ _ _ _ _ h9 hown' hgrow
                obtain ⟨g', cap', rfl⟩ := ownsRow_succ hown'
                have HTN := hide hts
                have r6 := hyz.cell 6
                have rl := hyz.lt
                have rf := hyz.free 6
                clear hown' hgrow hyz hts
                go_wp2_with fail
                clear HS HXS HST HB1W HKZ1 hs3
                generalize w4.setCell _ _ = w5 at HTN ⊢
                go_meet
                exact ⟨_, _, HTN⟩
              case rest =>
                obtain ⟨v', css', hc⟩ := hcut
                have HC := hide hc.out
                clear hc
                go_wp2_with fail
                go_roundg (d.boxes.length - (k + 1))
                case measure => rw [hu.out]; omega
                case rel => exact ⟨k + 1, _, _, hide rfl, by go_num, hide ⟨hlt, HC.out⟩⟩
            · have hlti : ¬ (k : Int) < (d.boxes.length : Int) := by omega
              have hke : k = d.boxes.length := by omega
              subst hke
              have HT6 := hide hh.out.2
              obtain ⟨vB, rfl⟩ : ∃ x, x = v := ⟨_, rfl⟩
              obtain ⟨cB, rfl⟩ : ∃ x, x = css := ⟨_, rfl⟩
              have HB6 := hide HT6.out.g
              have HO6 := hide (HO0.out.below HB6.out)
              have z0 := HT6.out.y.cell 0
              have z1 := HT6.out.y.cell 1
              have z2 := HT6.out.y.cell 2
              have z3 := HT6.out.y.cell 3
              have z4 := HT6.out.y.cell 4
              have z5 := HT6.out.y.cell 5
              have z6 := HT6.out.y.cell 6
              have zl := HT6.out.y.lt
              obtain ⟨a21, c21, hvP, _⟩ := own_shape HT6.out.p.own
              obtain ⟨a22, c22, hvC, _⟩ := own_shape HT6.out.c.own
              obtain ⟨a23, c23, hvB, _⟩ := own_shape HT6.out.b.own
              subst hvP hvC hvB
              have k0 := HO6.out.cell 0
              have k1 := HO6.out.cell 1
              have k2 := HO6.out.cell 2
              have k3 := HO6.out.cell 3
              have k4 := HO6.out.cell 4
              have k5 := HO6.out.cell 5
              have k6 := HO6.out.cell 6
              have kl := HO6.out.lt
              have j0 := HO6.out.free 0
              have j1 := HO6.out.free 1
              have j2 := HO6.out.free 2
              have j3 := HO6.out.free 3
              have j4 := HO6.out.free 4
              have j5 := HO6.out.free 5
              have j6 := HO6.out.free 6
              have HFN := hide (HT6.out.fin)
              have HSZ := hide (show w.heap.size ≤ w1.heap.size from HBA.out.size)
              have HKO := hide (show w.heap.size ≤ kx + 1 by have := HKX.out; omega)
              have HBF := hide (below_next HBA.out HB6.out)
              clear HT5 hh hu
              go_wp2_with fail
              clear z0 z1 z2 z3 z4 z5 z6 zl k0 k1 k2 k3 k4 k5 k6 kl j0 j1 j2 j3 j4 j5 j6 HT6
              change bodyPost Try.prog Try.f13 _ _ _ (set7 wr (kx + 1) (.string d.start) (.string d.layout) (.slice a21 cP.length c21) (.slice a22 cC.length c22) (.slice a9 d.follows.length c9) (.slice a11 d.rejects.length c11) (.slice a23 cB.length c23))
              exact ret13 rfl rfl (set7_blk _ _ _ _ _ _ _ HO6.out) ⟨_, _, _, _, _, _, _, _, _, _, rfl, hide ((set7_touch _ _ _ _ _ _ _ HO6.out HFN.out).base HSZ.out), set7_below _ _ _ _ _ _ _ HBF.out HKO.out⟩
end Go.Proofs.Ytalicfpcmcbdbaa
