/- The walk of CheckTurned. -/
import Derived.Test.YtalicfpcmcbdbaaTuS
import Derived.Test.YtalicfpcmcbdbaaOkD
import Derived.Test.YtalicfpcmcbdbaaAlive
import Derived.Test.YtalicfpcmcbdbaaParts
import Derived.Deep.RegionHeld3
import Derived.StillTailTactics
import Derived.BigQuiet
set_option linter.unusedVariables false
set_option linter.unusedSimpArgs false
set_option linter.unnecessarySimpa false
set_option linter.deprecated false
namespace Go.Proofs.Ytalicfpcmcbdbaa
open Go.RowKit

theorem Small.fl5 {d : Df} (h : Small d) : d.follows.length ≤ 100000 := by have := h.rl; omega
theorem Small.rl5 {d : Df} (h : Small d) : d.rejects.length ≤ 100000 := by have := h.rl; omega
theorem Small.perm {d : Df} {P : List Pd} {F : List Fl} {R : List Rj} {B : List Bx} (h : Small d) (hP : d.prods.Perm P) (hF : d.follows.Perm F) (hR : d.rejects.Perm R) (hB : d.boxes.Perm B) : Small ⟨d.start, d.layout, P, d.chains, F, R, B⟩ := by
  refine ⟨by rw [← hP.length_eq]; exact h.pl, fun p hp => h.sl p (hP.mem_iff.2 hp), ?_, h.ct, by rw [← hB.length_eq]; exact h.bl⟩
  have hu := h.ul
  have e : (usedL ⟨d.start, d.layout, P, d.chains, F, R, B⟩).length = (usedL d).length := by
    unfold usedL
    simp only [List.length_append]
    rw [(hP.flatMap_right namesL).length_eq, (hF.map Fl.sort).length_eq, (hR.flatMap_right rejN).length_eq]
  rw [e]; exact hu
set_option maxHeartbeats 3200000 in
set_option maxRecDepth 100000 in
theorem lawTurned_any (d : Df) (a2 : Option Addr) (c2 : Nat) (a3 : Option Addr) (c3 : Nat) (a4 : Option Addr) (c4 : Nat) (a5 : Option Addr) (c5 : Nat) (a6 : Option Addr) (c6 : Nat) (y : Int) (w : World) (hd : RD d ⟨a2, c2, a3, c3, a4, c4, a5, c5, a6, c6⟩ w) (hn : -9223372036854775808 ≤ y ∧ y ≤ 9223372036854775807) : Calls Try.prog 5 #[.agg #[.string d.start, .string d.layout, .slice a2 d.prods.length c2, .slice a3 d.chains.length c3, .slice a4 d.follows.length c4, .slice a5 d.rejects.length c5, .slice a6 d.boxes.length c6], .int .i64 y] w fun e w' => e = .returned (.bool true) ∧ Below w.heap.size w w' := by
  obtain ⟨i38, hi38, hz38, hy38, hw38⟩ := info_parts info38
  obtain ⟨i48, hi48, hz48, hy48, hw48⟩ := info_parts info48
  obtain ⟨i50, hi50, hz50, hy50, hw50⟩ := info_parts info50
  obtain ⟨i53, hi53, hz53, hy53, hw53⟩ := info_parts info53
  have HYI := hide (show i64 y from hn)
  clear hn
  have HB0 := hide ((Below.refl w.heap.size w).alloc (Nat.le_refl _) (.cells #[.string d.start, .string d.layout, .slice a2 d.prods.length c2, .slice a3 d.chains.length c3, .slice a4 d.follows.length c4, .slice a5 d.rejects.length c5, .slice a6 d.boxes.length c6] 28))
  have HX0 := hide (Blk.new w #[.string d.start, .string d.layout, .slice a2 d.prods.length c2, .slice a3 d.chains.length c3, .slice a4 d.follows.length c4, .slice a5 d.rejects.length c5, .slice a6 d.boxes.length c6] 28)
  have HD := hide (hd.below HB0.out)
  have hl2 := hd.p.1
  clear hd
  go_enter Try.func5, Try.ntmps5
  go_upto_region 1 with fail
  obtain ⟨kx, hkx⟩ : ∃ kx, w.heap.size = kx := ⟨_, rfl⟩
  obtain ⟨w0, h1⟩ : ∃ w1, w.alloc (.cells #[.string d.start, .string d.layout, .slice a2 d.prods.length c2, .slice a3 d.chains.length c3, .slice a4 d.follows.length c4, .slice a5 d.rejects.length c5, .slice a6 d.boxes.length c6] 28) = w1 := ⟨_, rfl⟩
  rw [h1] at HD HB0 HX0 ⊢
  rw [hkx] at HX0 ⊢
  clear h1 hkx
  have x0 := HX0.out.cell 0
  have x1 := HX0.out.cell 1
  have x2 := HX0.out.cell 2
  have x3 := HX0.out.cell 3
  have x4 := HX0.out.cell 4
  have x5 := HX0.out.cell 5
  have x6 := HX0.out.cell 6
  have xl := HX0.out.lt
  have HHV := hide (heavy_any d a2 c2 a3 c3 a4 c4 a5 c5 a6 c6 w0 HD.out)
  go_wp2_with fail
  refine HHV.out.mono ?_
  rintro e w1 ⟨⟨hv, rfl, hsm⟩, hb1⟩
  have HB1 := hide (below_next HB0.out hb1)
  have HX1 := hide (HX0.out.below hb1)
  have HD1 := hide (HD.out.below hb1)
  clear HX0 HD HHV HB0 hb1 x0 x1 x2 x3 x4 x5 x6 xl
  clear w0
  cases hv with
  | true =>
    have HC := hide (alive_any w1)
    clear hsm
    go_wp2_with fail
    refine HC.out.mono ?_
    rintro e w2 ⟨rfl, hb2⟩
    have HB2 := hide (below_next HB1.out hb2)
    clear hb2
    go_wp2_with fail
    go_ret
    exact ⟨rfl, HB2.out⟩
  | false =>
    have HSM := hide (tot_small (hsm rfl))
    clear hsm
    have HCK1 := hide (Check_any d a2 c2 a3 c3 a4 c4 a5 c5 a6 c6 w1 HD1.out HSM.out)
    obtain ⟨z1, n1, hz1⟩ : ∃ z1 n1, checkL d = (z1, n1) := ⟨_, _, rfl⟩
    have HZ1 := hide (show z1 = 0 ↔ OkD d by rw [← check_ok, hz1])
    rw [hz1] at HCK1
    clear hz1
    have x0 := HX1.out.cell 0
    have x1 := HX1.out.cell 1
    have x2 := HX1.out.cell 2
    have x3 := HX1.out.cell 3
    have x4 := HX1.out.cell 4
    have x5 := HX1.out.cell 5
    have x6 := HX1.out.cell 6
    have xl := HX1.out.lt
    go_wp2_with fail
    refine HCK1.out.mono ?_
    rintro e w2 ⟨rfl, hb2⟩
    have HB12 := hide hb2
    have HX2 := hide (HX1.out.below hb2)
    clear hb2 x0 x1 x2 x3 x4 x5 x6 xl
    have x0 := HX2.out.cell 0
    have x1 := HX2.out.cell 1
    have x3 := HX2.out.cell 3
    have xl := HX2.out.lt
    go_upto_region 5 with fail
    clear x0 x1 x3 xl
    obtain ⟨ky, hky⟩ : ∃ ky, w2.heap.size = ky := ⟨_, rfl⟩
    have HKY1 := hide (show w1.heap.size ≤ ky by rw [← hky]; exact HB12.out.size)
    have HKXY := hide (show kx ≠ ky by have := HX2.out.lt; omega)
    have HB14 := hide (HB12.out.alloc HB12.out.size (.cells #[.string d.start, .string d.layout, .slice none 0 0, .slice a3 d.chains.length c3, .slice none 0 0, .slice none 0 0, .slice none 0 0] 28))
    have HY4 := hide (Blk.new w2 #[.string d.start, .string d.layout, .slice none 0 0, .slice a3 d.chains.length c3, .slice none 0 0, .slice none 0 0, .slice none 0 0] 28)
    have HX4 := hide (HX2.out.alloc (.cells #[.string d.start, .string d.layout, .slice none 0 0, .slice a3 d.chains.length c3, .slice none 0 0, .slice none 0 0, .slice none 0 0] 28))
    rw [hky] at HY4 ⊢
    generalize w2.alloc (.cells #[.string d.start, .string d.layout, .slice none 0 0, .slice a3 d.chains.length c3, .slice none 0 0, .slice none 0 0, .slice none 0 0] 28) = w4 at HB14 HY4 HX4 ⊢
    clear hky
    have HS := hide (fun (W : World) (h : Below w4.heap.size w4 W) => (show (Hid (Below w4.heap.size w4 W) ∧ kx < W.heap.size ∧ W.cell? ⟨kx, 0, none⟩ = some (.string d.start) ∧ W.cell? ⟨kx, 1, none⟩ = some (.string d.layout) ∧ W.cell? ⟨kx, 2, none⟩ = some (.slice a2 d.prods.length c2) ∧ W.cell? ⟨kx, 3, none⟩ = some (.slice a3 d.chains.length c3) ∧ W.cell? ⟨kx, 4, none⟩ = some (.slice a4 d.follows.length c4) ∧ W.cell? ⟨kx, 5, none⟩ = some (.slice a5 d.rejects.length c5) ∧ W.cell? ⟨kx, 6, none⟩ = some (.slice a6 d.boxes.length c6)) from
      have q := HX4.out.below h
      ⟨hide h, q.lt, q.cell 0, q.cell 1, q.cell 2, q.cell 3, q.cell 4, q.cell 5, q.cell 6⟩))
    have HT20 := hide (fun (n : Nat) (hn : n ≤ 100000) (W : World) (h : Hid (Below w4.heap.size w4 W)) => (show Calls Try.prog 20 #[.int .i64 (n : Int), .int .i64 y] W fun e W' => ∃ b a c, e = .returned (.slice a n c) ∧ Hid ((0 < n → b < n) ∧ Row NatAt 1 (rotI n b n) a W' ∧ (∀ g o, a = some ⟨g, o, none⟩ → g ≠ ky) ∧ Below W.heap.size W W') ∧ (fun W => (Hid (Below w4.heap.size w4 W) ∧ kx < W.heap.size ∧ W.cell? ⟨kx, 0, none⟩ = some (.string d.start) ∧ W.cell? ⟨kx, 1, none⟩ = some (.string d.layout) ∧ W.cell? ⟨kx, 2, none⟩ = some (.slice a2 d.prods.length c2) ∧ W.cell? ⟨kx, 3, none⟩ = some (.slice a3 d.chains.length c3) ∧ W.cell? ⟨kx, 4, none⟩ = some (.slice a4 d.follows.length c4) ∧ W.cell? ⟨kx, 5, none⟩ = some (.slice a5 d.rejects.length c5) ∧ W.cell? ⟨kx, 6, none⟩ = some (.slice a6 d.boxes.length c6))) W' from (turn_any n y HYI.out hn W).mono (fun e W' hh => by
      obtain ⟨b, v, rfl, hbn, ho, hb⟩ := hh
      have hbw := below_next h.out hb
      have hne := (HY4.out.below hbw).own_ne ho (by decide)
      obtain ⟨a, c, rfl, hr⟩ := ho.row (by rw [rotI_len]; omega)
      rw [rotI_len] at hne ⊢
      exact ⟨b, a, c, rfl, hide ⟨hbn, hr, fun g o e => by subst e; intro e2; subst e2; exact hne rfl, hb⟩, HS.out W' hbw⟩)))
    have hlp := HSM.out.pl5
    have hlf := HSM.out.fl5
    have hlr := HSM.out.rl5
    have hlb := HSM.out.bl
    have hs0 := HS.out _ (Below.drew (Below.refl w4.heap.size w4))
    go_region_held3 (fun W => (Hid (Below w4.heap.size w4 W) ∧ kx < W.heap.size ∧ W.cell? ⟨kx, 0, none⟩ = some (.string d.start) ∧ W.cell? ⟨kx, 1, none⟩ = some (.string d.layout) ∧ W.cell? ⟨kx, 2, none⟩ = some (.slice a2 d.prods.length c2) ∧ W.cell? ⟨kx, 3, none⟩ = some (.slice a3 d.chains.length c3) ∧ W.cell? ⟨kx, 4, none⟩ = some (.slice a4 d.follows.length c4) ∧ W.cell? ⟨kx, 5, none⟩ = some (.slice a5 d.rejects.length c5) ∧ W.cell? ⟨kx, 6, none⟩ = some (.slice a6 d.boxes.length c6))) (first | exact hs0 | assumption)
      (first
        | (go_at_call 20; with_reducible refine (HT20.out d.prods.length (by omega) _ (And.left (by assumption))).mono ?_; rintro e w21 ⟨b21, a21, c21, rfl, hr21, hs21⟩)
        | (go_at_call 20; with_reducible refine (HT20.out d.follows.length (by omega) _ (And.left (by assumption))).mono ?_; rintro e w22 ⟨b22, a22, c22, rfl, hr22, hs22⟩)
        | (go_at_call 20; with_reducible refine (HT20.out d.rejects.length (by omega) _ (And.left (by assumption))).mono ?_; rintro e w23 ⟨b23, a23, c23, rfl, hr23, hs23⟩)
        | (go_at_call 20; with_reducible refine (HT20.out d.boxes.length (by omega) _ (And.left (by assumption))).mono ?_; rintro e w24 ⟨b24, a24, c24, rfl, hr24, hs24⟩))
    have B23 := hr24.out.2.2.2
    have B22 := below_next hr23.out.2.2.2 B23
    have B21 := below_next hr22.out.2.2.2 B22
    have HRP := hide (And.intro (hr21.out.2.1.below NatAt.stable B21) hr21.out.2.2.1)
    have HRF := hide (And.intro (hr22.out.2.1.below NatAt.stable B22) hr22.out.2.2.1)
    have HRR := hide (And.intro (hr23.out.2.1.below NatAt.stable B23) hr23.out.2.2.1)
    have HRB := hide (And.intro hr24.out.2.1 hr24.out.2.2.1)
    have HBN := hide (And.intro hr21.out.1 (And.intro hr22.out.1 (And.intro hr23.out.1 hr24.out.1)))
    have HB45 := hide (And.left hs24).out
    have HB15 := hide (below_next HB14.out HB45.out)
    have HX5 := hide (HX4.out.below HB45.out)
    have HT := hide (show TuS d a3 c3 w1 w24 ky b21 b22 b23 b24 0 0 0 0 (.slice none 0 0) (.slice none 0 0) (.slice none 0 0) (.slice none 0 0) [] [] [] [] w24 from ⟨grown_refl _ _, HY4.out.below HB45.out, TuL.nil _ _ _ _ _, TuL.nil _ _ _ _ _, TuL.nil _ _ _ _ _, TuL.nil _ _ _ _ _⟩)
    clear hs0 hr21 hr22 hr23 hr24 hs21 hs22 hs23 hs24 B21 B22 B23 HT20 HS
    obtain ⟨w5, rfl⟩ : ∃ w5 : World, w5 = w24 := ⟨_, rfl⟩
    go_wp2_with fail
    go_loopg [12] d.prods.length (fun u v12 wr => ∃ k v css, Hid (u = d.prods.length - k) ∧ v12 = .int .i64 (k : Int) ∧ Hid (k ≤ d.prods.length ∧ TuS d a3 c3 w1 w5 ky b21 b22 b23 b24 k 0 0 0 v (.slice none 0 0) (.slice none 0 0) (.slice none 0 0) css [] [] [] wr))
    case atStart => exact ⟨0, _, _, hide rfl, rfl, hide ⟨Nat.zero_le _, HT.out⟩⟩
    case round =>
      obtain ⟨k, v, css, hu, rfl, hh⟩ := hrel
      have hkl := hh.out.1
      have HBW := hide (HB15.out.grown hh.out.2.g HB15.out.size (fun g e => by injection e with e; rw [← e]; exact HKY1.out))
      by_cases hlt : k < d.prods.length
      · have hlti : (k : Int) < (d.prods.length : Int) := by omega
        obtain ⟨r, hr⟩ : ∃ r, (k + b21) % d.prods.length = r := ⟨_, rfl⟩
        have hrl : r < d.prods.length := by rw [← hr]; exact Nat.mod_lt _ (by omega)
        have hrli : (r : Int) < (d.prods.length : Int) := by omega
        have HRT := hide (rotT_snoc d.prods b21 k r hr hrl)
        have hkI : k < (rotI d.prods.length b21 d.prods.length).length := by rw [rotI_len]; exact hlt
        obtain ⟨g8, o8, rfl, hg8, hat8⟩ := HRP.out.1.get hkI
        have hx8 := hat8 k hkI
        have hval : (rotI d.prods.length b21 d.prods.length)[k] = r := by rw [← hr]; simp [rotI]
        rw [hval, Nat.mul_one] at hx8
        have i0c : wr.cell? ⟨g8, o8 + k, none⟩ = some (.int .i64 (r : Int)) := hh.out.2.g.cell hx8 (fun e => HRP.out.2 g8 o8 rfl (by injection e))
        have hg8w : g8 < wr.heap.size := Nat.lt_of_lt_of_le hg8 hh.out.2.g.size
        obtain ⟨bp, op, rfl, hbp, hatp⟩ := HD1.out.p.get hrl
        have hx1 := hatp r hrl
        generalize d.prods[r] = x at hx1 HRT
        clear hatp hat8 hx8 hval hr
        obtain ⟨lx, so, cn, br, sy⟩ := x
        obtain ⟨hok, ap, cp, hca, hrw, hcp⟩ := hx1
        have HAT := hide (show ∀ W', Below w1.heap.size w1 W' → ∀ b o, CellsAt [.bool lx, .string so, .string cn, .bool br, .slice ap sy.length cp] b o W' → PdAt ⟨lx, so, cn, br, sy⟩ b o W' from fun W' hb b o hc => ⟨hok, ap, cp, hc, hrw.below SyAt.stable hb, hcp⟩)
        have e0 := hca 0 _ rfl
        have e1 := hca 1 _ rfl
        have e2 := hca 2 _ rfl
        have e3 := hca 3 _ rfl
        have e4 := hca 4 _ rfl
        replace e0 := (HBW.out.cell (p := ⟨bp, op + r * 5, none⟩) hbp).trans e0
        replace e1 := (HBW.out.cell (p := ⟨bp, op + r * 5 + 1, none⟩) hbp).trans e1
        replace e2 := (HBW.out.cell (p := ⟨bp, op + r * 5 + 2, none⟩) hbp).trans e2
        replace e3 := (HBW.out.cell (p := ⟨bp, op + r * 5 + 3, none⟩) hbp).trans e3
        replace e4 := (HBW.out.cell (p := ⟨bp, op + r * 5 + 4, none⟩) hbp).trans e4
        have hbpw : bp < wr.heap.size := Nat.lt_of_lt_of_le hbp HBW.out.size
        have hxk : Blk wr kx _ 28 := HX5.out.grown hh.out.2.g (by have := HKXY.out; intro e; injection e with e; exact this e)
        have q2 := hxk.cell 2
        have ql := hxk.lt
        have yv := hh.out.2.y.cell 2
        have yl := hh.out.2.y.lt
        have yf := hh.out.2.y.free 2
        have HTS := hide hh.out.2
        have hcl : css.length ≤ 100000 := by have h1 := hh.out.2.p.len; rw [rotT_len _ _ _ (Or.inl (by omega))] at h1; have := HSM.out.pl5; omega
        have hbs := hh.out.2.g.size
        have hown := hh.out.2.p.own
        have HST := hide (fun v' wz (ho : World.ownsRow wz w5.heap.size 38 5 v' (css.length + 1) (css.flatten ++ [.bool lx, .string so, .string cn, .bool br, .slice ap sy.length cp])) (hg : (wr.drew.alloc (.cells #[.bool lx, .string so, .string cn, .bool br, .slice ap sy.length cp] 38)).grownBy wz v.ownBlock) => hh.out.2.pushP ho hg rfl HAT.out HRT.out)
        clear hok hca hxk hh
        go_upto_region 9 with fail
        go_region_law (refine step_append_own rfl (.tmp 60) (.tmp 69) 22 rfl w5.heap.size 38 i38 _ 5 72 Try.underlying22 hi38 hz38 hy38 hw38 rfl (by decide) v css.length css.flatten (by simp [Act.eval, Act.put]) (own_below hown ((Below.refl wr.heap.size wr).drew.alloc (by simp) _)) ⟨wr.heap.size, 0, none⟩ 1 1 [.bool lx, .string so, .string cn, .bool br, .slice ap sy.length cp] (by simp [Act.eval, Act.put]) rfl (cells_new _ [.bool lx, .string so, .string cn, .bool br, .slice ap sy.length cp] 38) (by simp [Value.oneCell']) (by unfold maxLen; omega) (by omega) (by simp; omega) ?_; intro v' wz hown' hgrow hnil hatt; obtain ⟨hyz, hts⟩ := HST.out _ _ hown' hgrow; obtain ⟨g', cap', rfl⟩ := ownsRow_succ hown'; have HTN := hide hts; have z2 := hyz.cell 2; have zl := hyz.lt; have zf := hyz.free 2; clear hown' hgrow hnil hatt hyz hts)
        all_goals
          go_wp2_with fail
          go_roundg (d.prods.length - (k + 1))
          case measure => rw [hu.out]; omega
          case rel => exact ⟨k + 1, _, _, hide rfl, by go_num, hide ⟨hlt, by first | exact HTN.out | exact HTN.out.drew⟩⟩
      · have hlti : ¬ (k : Int) < (d.prods.length : Int) := by omega
        have hke : k = d.prods.length := by omega
        subst hke
        have HT2 := hide hh.out.2
        have HBW2 := hide HBW.out
        obtain ⟨vP, rfl⟩ : ∃ x, x = v := ⟨_, rfl⟩
        obtain ⟨cP, rfl⟩ : ∃ x, x = css := ⟨_, rfl⟩
        clear HT hh hu HBW
        have HT := hide HT2.out
        clear HT2 HBW2
        go_wp2_with fail
        go_loopg [13] d.follows.length (fun u v13 wr => ∃ k v css, Hid (u = d.follows.length - k) ∧ v13 = .int .i64 (k : Int) ∧ Hid (k ≤ d.follows.length ∧ TuS d a3 c3 w1 w5 ky b21 b22 b23 b24 d.prods.length k 0 0 vP v (.slice none 0 0) (.slice none 0 0) cP css [] [] wr))
        case atStart => exact ⟨0, _, _, hide rfl, rfl, hide ⟨Nat.zero_le _, HT.out⟩⟩
        case round =>
          obtain ⟨k, v, css, hu, rfl, hh⟩ := hrel
          have hkl := hh.out.1
          have HBW := hide (HB15.out.grown hh.out.2.g HB15.out.size (fun g e => by injection e with e; rw [← e]; exact HKY1.out))
          by_cases hlt : k < d.follows.length
          · have hlti : (k : Int) < (d.follows.length : Int) := by omega
            obtain ⟨r, hr⟩ : ∃ r, (k + b22) % d.follows.length = r := ⟨_, rfl⟩
            have hrl : r < d.follows.length := by rw [← hr]; exact Nat.mod_lt _ (by omega)
            have hrli : (r : Int) < (d.follows.length : Int) := by omega
            have HRT := hide (rotT_snoc d.follows b22 k r hr hrl)
            have hkI : k < (rotI d.follows.length b22 d.follows.length).length := by rw [rotI_len]; exact hlt
            obtain ⟨g8, o8, rfl, hg8, hat8⟩ := HRF.out.1.get hkI
            have hx8 := hat8 k hkI
            have hval : (rotI d.follows.length b22 d.follows.length)[k] = r := by rw [← hr]; simp [rotI]
            rw [hval, Nat.mul_one] at hx8
            have i0c : wr.cell? ⟨g8, o8 + k, none⟩ = some (.int .i64 (r : Int)) := hh.out.2.g.cell hx8 (fun e => HRF.out.2 g8 o8 rfl (by injection e))
            have hg8w : g8 < wr.heap.size := Nat.lt_of_lt_of_le hg8 hh.out.2.g.size
            obtain ⟨bp, op, rfl, hbp, hatp⟩ := HD1.out.f.get hrl
            have hx1 := hatp r hrl
            generalize d.follows[r] = x at hx1 HRT
            clear hatp hat8 hx8 hval hr
            obtain ⟨so, ⟨s0, s1, s2, s3⟩⟩ := x
            obtain ⟨hok, hca⟩ := hx1
            have HAT := hide (show ∀ W', Below w1.heap.size w1 W' → ∀ b o, CellsAt [.string so, .int .u64 (s0 : Int), .int .u64 (s1 : Int), .int .u64 (s2 : Int), .int .u64 (s3 : Int)] b o W' → FlAt ⟨so, ⟨s0, s1, s2, s3⟩⟩ b o W' from fun W' hb b o hc => ⟨hok, hc⟩)
            have e0 : w1.cell? _ = _ := hca 0 _ rfl
            have e1 : w1.cell? _ = _ := hca 1 _ rfl
            have e2 : w1.cell? _ = _ := hca 2 _ rfl
            have e3 : w1.cell? _ = _ := hca 3 _ rfl
            have e4 : w1.cell? _ = _ := hca 4 _ rfl
            replace e0 := (HBW.out.cell (p := ⟨bp, op + r * 5, none⟩) hbp).trans e0
            replace e1 := (HBW.out.cell (p := ⟨bp, op + r * 5 + 1, none⟩) hbp).trans e1
            replace e2 := (HBW.out.cell (p := ⟨bp, op + r * 5 + 2, none⟩) hbp).trans e2
            replace e3 := (HBW.out.cell (p := ⟨bp, op + r * 5 + 3, none⟩) hbp).trans e3
            replace e4 := (HBW.out.cell (p := ⟨bp, op + r * 5 + 4, none⟩) hbp).trans e4
            have hbpw : bp < wr.heap.size := Nat.lt_of_lt_of_le hbp HBW.out.size
            have hxk : Blk wr kx _ 28 := HX5.out.grown hh.out.2.g (by have := HKXY.out; intro e; injection e with e; exact this e)
            have q4 := hxk.cell 4
            have ql := hxk.lt
            have yv := hh.out.2.y.cell 4
            have yl := hh.out.2.y.lt
            have yf := hh.out.2.y.free 4
            have HTS := hide hh.out.2
            have hcl : css.length ≤ 100000 := by have h1 := hh.out.2.f.len; rw [rotT_len _ _ _ (Or.inl (by omega))] at h1; have := HSM.out.fl5; omega
            have hbs := hh.out.2.g.size
            have hown := hh.out.2.f.own
            have HST := hide (fun v' wz (ho : World.ownsRow wz w5.heap.size 48 5 v' (css.length + 1) (css.flatten ++ [.string so, .int .u64 (s0 : Int), .int .u64 (s1 : Int), .int .u64 (s2 : Int), .int .u64 (s3 : Int)])) (hg : (wr.drew.alloc (.cells #[.string so, .int .u64 (s0 : Int), .int .u64 (s1 : Int), .int .u64 (s2 : Int), .int .u64 (s3 : Int)] 48)).grownBy wz v.ownBlock) => hh.out.2.pushF ho hg rfl HAT.out HRT.out)
            clear hok hca hxk hh
            go_upto_region 13 with fail
            go_region_law (refine step_append_own rfl (.tmp 79) (.tmp 88) 24 rfl w5.heap.size 48 i48 _ 5 48 Try.underlying24 hi48 hz48 hy48 hw48 rfl (by decide) v css.length css.flatten (by simp [Act.eval, Act.put]) (own_below hown ((Below.refl wr.heap.size wr).drew.alloc (by simp) _)) ⟨wr.heap.size, 0, none⟩ 1 1 [.string so, .int .u64 (s0 : Int), .int .u64 (s1 : Int), .int .u64 (s2 : Int), .int .u64 (s3 : Int)] (by simp [Act.eval, Act.put]) rfl (cells_new _ [.string so, .int .u64 (s0 : Int), .int .u64 (s1 : Int), .int .u64 (s2 : Int), .int .u64 (s3 : Int)] 48) (by simp [Value.oneCell']) (by unfold maxLen; omega) (by omega) (by simp; omega) ?_; intro v' wz hown' hgrow hnil hatt; obtain ⟨hyz, hts⟩ := HST.out _ _ hown' hgrow; obtain ⟨g', cap', rfl⟩ := ownsRow_succ hown'; have HTN := hide hts; have z2 := hyz.cell 4; have zl := hyz.lt; have zf := hyz.free 4; clear hown' hgrow hnil hatt hyz hts)
            all_goals
              go_wp2_with fail
              go_roundg (d.follows.length - (k + 1))
              case measure => rw [hu.out]; omega
              case rel => exact ⟨k + 1, _, _, hide rfl, by go_num, hide ⟨hlt, by first | exact HTN.out | exact HTN.out.drew⟩⟩
          · have hlti : ¬ (k : Int) < (d.follows.length : Int) := by omega
            have hke : k = d.follows.length := by omega
            subst hke
            have HT2 := hide hh.out.2
            have HBW2 := hide HBW.out
            obtain ⟨vF, rfl⟩ : ∃ x, x = v := ⟨_, rfl⟩
            obtain ⟨cF, rfl⟩ : ∃ x, x = css := ⟨_, rfl⟩
            clear HT hh hu HBW
            have HT := hide HT2.out
            clear HT2 HBW2
            go_wp2_with fail
            go_loopg [14] d.rejects.length (fun u v14 wr => ∃ k v css, Hid (u = d.rejects.length - k) ∧ v14 = .int .i64 (k : Int) ∧ Hid (k ≤ d.rejects.length ∧ TuS d a3 c3 w1 w5 ky b21 b22 b23 b24 d.prods.length d.follows.length k 0 vP vF v (.slice none 0 0) cP cF css [] wr))
            case atStart => exact ⟨0, _, _, hide rfl, rfl, hide ⟨Nat.zero_le _, HT.out⟩⟩
            case round =>
              obtain ⟨k, v, css, hu, rfl, hh⟩ := hrel
              have hkl := hh.out.1
              have HBW := hide (HB15.out.grown hh.out.2.g HB15.out.size (fun g e => by injection e with e; rw [← e]; exact HKY1.out))
              by_cases hlt : k < d.rejects.length
              · have hlti : (k : Int) < (d.rejects.length : Int) := by omega
                obtain ⟨r, hr⟩ : ∃ r, (k + b23) % d.rejects.length = r := ⟨_, rfl⟩
                have hrl : r < d.rejects.length := by rw [← hr]; exact Nat.mod_lt _ (by omega)
                have hrli : (r : Int) < (d.rejects.length : Int) := by omega
                have HRT := hide (rotT_snoc d.rejects b23 k r hr hrl)
                have hkI : k < (rotI d.rejects.length b23 d.rejects.length).length := by rw [rotI_len]; exact hlt
                obtain ⟨g8, o8, rfl, hg8, hat8⟩ := HRR.out.1.get hkI
                have hx8 := hat8 k hkI
                have hval : (rotI d.rejects.length b23 d.rejects.length)[k] = r := by rw [← hr]; simp [rotI]
                rw [hval, Nat.mul_one] at hx8
                have i0c : wr.cell? ⟨g8, o8 + k, none⟩ = some (.int .i64 (r : Int)) := hh.out.2.g.cell hx8 (fun e => HRR.out.2 g8 o8 rfl (by injection e))
                have hg8w : g8 < wr.heap.size := Nat.lt_of_lt_of_le hg8 hh.out.2.g.size
                obtain ⟨bp, op, rfl, hbp, hatp⟩ := HD1.out.j.get hrl
                have hx1 := hatp r hrl
                generalize d.rejects[r] = x at hx1 HRT
                clear hatp hat8 hx8 hval hr
                obtain ⟨so, by_⟩ := x
                obtain ⟨hok, hca⟩ := hx1
                have HAT := hide (show ∀ W', Below w1.heap.size w1 W' → ∀ b o, CellsAt [.string so, .string by_] b o W' → RjAt ⟨so, by_⟩ b o W' from fun W' hb b o hc => ⟨hok, hc⟩)
                have e0 := hca 0 _ rfl
                have e1 := hca 1 _ rfl
                replace e0 := (HBW.out.cell (p := ⟨bp, op + r * 2, none⟩) hbp).trans e0
                replace e1 := (HBW.out.cell (p := ⟨bp, op + r * 2 + 1, none⟩) hbp).trans e1
                have hbpw : bp < wr.heap.size := Nat.lt_of_lt_of_le hbp HBW.out.size
                have hxk : Blk wr kx _ 28 := HX5.out.grown hh.out.2.g (by have := HKXY.out; intro e; injection e with e; exact this e)
                have q5 := hxk.cell 5
                have ql := hxk.lt
                have yv := hh.out.2.y.cell 5
                have yl := hh.out.2.y.lt
                have yf := hh.out.2.y.free 5
                have HTS := hide hh.out.2
                have hcl : css.length ≤ 100000 := by have h1 := hh.out.2.r.len; rw [rotT_len _ _ _ (Or.inl (by omega))] at h1; have := HSM.out.rl5; omega
                have hbs := hh.out.2.g.size
                have hown := hh.out.2.r.own
                have HST := hide (fun v' wz (ho : World.ownsRow wz w5.heap.size 50 2 v' (css.length + 1) (css.flatten ++ [.string so, .string by_])) (hg : (wr.drew.alloc (.cells #[.string so, .string by_] 50)).grownBy wz v.ownBlock) => hh.out.2.pushR ho hg rfl HAT.out HRT.out)
                clear hok hca hxk hh
                go_upto_region 17 with fail
                go_region_law (refine step_append_own rfl (.tmp 98) (.tmp 107) 25 rfl w5.heap.size 50 i50 _ 2 32 Try.underlying25 hi50 hz50 hy50 hw50 rfl (by decide) v css.length css.flatten (by simp [Act.eval, Act.put]) (own_below hown ((Below.refl wr.heap.size wr).drew.alloc (by simp) _)) ⟨wr.heap.size, 0, none⟩ 1 1 [.string so, .string by_] (by simp [Act.eval, Act.put]) rfl (cells_new _ [.string so, .string by_] 50) (by simp [Value.oneCell']) (by unfold maxLen; omega) (by omega) (by simp; omega) ?_; intro v' wz hown' hgrow hnil hatt; obtain ⟨hyz, hts⟩ := HST.out _ _ hown' hgrow; obtain ⟨g', cap', rfl⟩ := ownsRow_succ hown'; have HTN := hide hts; have z2 := hyz.cell 5; have zl := hyz.lt; have zf := hyz.free 5; clear hown' hgrow hnil hatt hyz hts)
                all_goals
                  go_wp2_with fail
                  go_roundg (d.rejects.length - (k + 1))
                  case measure => rw [hu.out]; omega
                  case rel => exact ⟨k + 1, _, _, hide rfl, by go_num, hide ⟨hlt, by first | exact HTN.out | exact HTN.out.drew⟩⟩
              · have hlti : ¬ (k : Int) < (d.rejects.length : Int) := by omega
                have hke : k = d.rejects.length := by omega
                subst hke
                have HT2 := hide hh.out.2
                have HBW2 := hide HBW.out
                obtain ⟨vR, rfl⟩ : ∃ x, x = v := ⟨_, rfl⟩
                obtain ⟨cR, rfl⟩ : ∃ x, x = css := ⟨_, rfl⟩
                clear HT hh hu HBW
                have HT := hide HT2.out
                clear HT2 HBW2
                go_wp2_with fail
                go_loopg [15] d.boxes.length (fun u v15 wr => ∃ k v css, Hid (u = d.boxes.length - k) ∧ v15 = .int .i64 (k : Int) ∧ Hid (k ≤ d.boxes.length ∧ TuS d a3 c3 w1 w5 ky b21 b22 b23 b24 d.prods.length d.follows.length d.rejects.length k vP vF vR v cP cF cR css wr))
                case atStart => exact ⟨0, _, _, hide rfl, rfl, hide ⟨Nat.zero_le _, HT.out⟩⟩
                case round =>
                  obtain ⟨k, v, css, hu, rfl, hh⟩ := hrel
                  have hkl := hh.out.1
                  have HBW := hide (HB15.out.grown hh.out.2.g HB15.out.size (fun g e => by injection e with e; rw [← e]; exact HKY1.out))
                  by_cases hlt : k < d.boxes.length
                  · have hlti : (k : Int) < (d.boxes.length : Int) := by omega
                    obtain ⟨r, hr⟩ : ∃ r, (k + b24) % d.boxes.length = r := ⟨_, rfl⟩
                    have hrl : r < d.boxes.length := by rw [← hr]; exact Nat.mod_lt _ (by omega)
                    have hrli : (r : Int) < (d.boxes.length : Int) := by omega
                    have HRT := hide (rotT_snoc d.boxes b24 k r hr hrl)
                    have hkI : k < (rotI d.boxes.length b24 d.boxes.length).length := by rw [rotI_len]; exact hlt
                    obtain ⟨g8, o8, rfl, hg8, hat8⟩ := HRB.out.1.get hkI
                    have hx8 := hat8 k hkI
                    have hval : (rotI d.boxes.length b24 d.boxes.length)[k] = r := by rw [← hr]; simp [rotI]
                    rw [hval, Nat.mul_one] at hx8
                    have i0c : wr.cell? ⟨g8, o8 + k, none⟩ = some (.int .i64 (r : Int)) := hh.out.2.g.cell hx8 (fun e => HRB.out.2 g8 o8 rfl (by injection e))
                    have hg8w : g8 < wr.heap.size := Nat.lt_of_lt_of_le hg8 hh.out.2.g.size
                    obtain ⟨bp, op, rfl, hbp, hatp⟩ := HD1.out.x.get hrl
                    have hx1 := hatp r hrl
                    generalize d.boxes[r] = x at hx1 HRT
                    clear hatp hat8 hx8 hval hr
                    obtain ⟨cn, its⟩ := x
                    obtain ⟨hok, ai, ci, hca, hrw⟩ := hx1
                    have HAT := hide (show ∀ W', Below w1.heap.size w1 W' → ∀ b o, CellsAt [.string cn, .slice ai its.length ci] b o W' → BxAt ⟨cn, its⟩ b o W' from fun W' hb b o hc => ⟨hok, ai, ci, hc, hrw.below ItAt.stable hb⟩)
                    have e0 := hca 0 _ rfl
                    have e1 := hca 1 _ rfl
                    replace e0 := (HBW.out.cell (p := ⟨bp, op + r * 2, none⟩) hbp).trans e0
                    replace e1 := (HBW.out.cell (p := ⟨bp, op + r * 2 + 1, none⟩) hbp).trans e1
                    have hbpw : bp < wr.heap.size := Nat.lt_of_lt_of_le hbp HBW.out.size
                    have hxk : Blk wr kx _ 28 := HX5.out.grown hh.out.2.g (by have := HKXY.out; intro e; injection e with e; exact this e)
                    have q6 := hxk.cell 6
                    have ql := hxk.lt
                    have yv := hh.out.2.y.cell 6
                    have yl := hh.out.2.y.lt
                    have yf := hh.out.2.y.free 6
                    have HTS := hide hh.out.2
                    have hcl : css.length ≤ 100000 := by have h1 := hh.out.2.b.len; rw [rotT_len _ _ _ (Or.inl (by omega))] at h1; have := HSM.out.bl; omega
                    have hbs := hh.out.2.g.size
                    have hown := hh.out.2.b.own
                    have HST := hide (fun v' wz (ho : World.ownsRow wz w5.heap.size 53 2 v' (css.length + 1) (css.flatten ++ [.string cn, .slice ai its.length ci])) (hg : (wr.drew.alloc (.cells #[.string cn, .slice ai its.length ci] 53)).grownBy wz v.ownBlock) => hh.out.2.pushB ho hg rfl HAT.out HRT.out)
                    clear hok hca hxk hh
                    go_upto_region 21 with fail
                    go_region_law (refine step_append_own rfl (.tmp 117) (.tmp 126) 26 rfl w5.heap.size 53 i53 _ 2 40 Try.underlying26 hi53 hz53 hy53 hw53 rfl (by decide) v css.length css.flatten (by simp [Act.eval, Act.put]) (own_below hown ((Below.refl wr.heap.size wr).drew.alloc (by simp) _)) ⟨wr.heap.size, 0, none⟩ 1 1 [.string cn, .slice ai its.length ci] (by simp [Act.eval, Act.put]) rfl (cells_new _ [.string cn, .slice ai its.length ci] 53) (by simp [Value.oneCell']) (by unfold maxLen; omega) (by omega) (by simp; omega) ?_; intro v' wz hown' hgrow hnil hatt; obtain ⟨hyz, hts⟩ := HST.out _ _ hown' hgrow; obtain ⟨g', cap', rfl⟩ := ownsRow_succ hown'; have HTN := hide hts; have z2 := hyz.cell 6; have zl := hyz.lt; have zf := hyz.free 6; clear hown' hgrow hnil hatt hyz hts)
                    all_goals
                      go_wp2_with fail
                      go_roundg (d.boxes.length - (k + 1))
                      case measure => rw [hu.out]; omega
                      case rel => exact ⟨k + 1, _, _, hide rfl, by go_num, hide ⟨hlt, by first | exact HTN.out | exact HTN.out.drew⟩⟩
                  · have hlti : ¬ (k : Int) < (d.boxes.length : Int) := by omega
                    have hke : k = d.boxes.length := by omega
                    subst hke
                    have HT2 := hide hh.out.2
                    have HBW2 := hide HBW.out
                    obtain ⟨vB, rfl⟩ : ∃ x, x = v := ⟨_, rfl⟩
                    obtain ⟨cB, rfl⟩ : ∃ x, x = css := ⟨_, rfl⟩
                    clear HT hh hu HBW
                    have hPP := rotT_perm d.prods b21 HBN.out.1
                    have hPF := rotT_perm d.follows b22 HBN.out.2.1
                    have hPR := rotT_perm d.rejects b23 HBN.out.2.2.1
                    have hPB := rotT_perm d.boxes b24 HBN.out.2.2.2
                    have HOKI := hide (OkD.perm_iff (d := d) hPP hPF hPR hPB)
                    have HSMI := hide (HSM.out.perm hPP hPF hPR hPB)
                    have HYY := hide HT2.out.y
                    have HRWP := hide (HT2.out.p.row HBW2.out (by rw [← hPP.length_eq]; exact HSM.out.pl5))
                    have HRWF := hide (HT2.out.f.row HBW2.out (by rw [← hPF.length_eq]; exact HSM.out.fl5))
                    have HRWR := hide (HT2.out.r.row HBW2.out (by rw [← hPR.length_eq]; exact HSM.out.rl5))
                    have HRWB := hide (HT2.out.b.row HBW2.out (by rw [← hPB.length_eq]; exact HSM.out.bl))
                    clear hPP hPF hPR hPB HT2
                    generalize rotT d.prods b21 d.prods.length = P at HOKI HSMI HRWP
                    generalize rotT d.follows b22 d.follows.length = F at HOKI HSMI HRWF
                    generalize rotT d.rejects b23 d.rejects.length = R at HOKI HSMI HRWR
                    generalize rotT d.boxes b24 d.boxes.length = B at HOKI HSMI HRWB
                    obtain ⟨aP, qP, rfl, hrP, hqP⟩ := HRWP.out
                    obtain ⟨aF, qF, rfl, hrF, hqF⟩ := HRWF.out
                    obtain ⟨aR, qR, rfl, hrR, hqR⟩ := HRWR.out
                    obtain ⟨aB, qB, rfl, hrB, hqB⟩ := HRWB.out
                    have HDX := hide (HD1.out.below HBW2.out)
                    have HRD := hide (show RD ⟨d.start, d.layout, P, d.chains, F, R, B⟩ ⟨aP, qP, a3, c3, aF, qF, aR, qR, aB, qB⟩ wr from ⟨HDX.out.s, HDX.out.l, hrP, HDX.out.c, hrF, hrR, hrB, hqR⟩)
                    have HCK2 := hide (Check_any ⟨d.start, d.layout, P, d.chains, F, R, B⟩ aP qP a3 c3 aF qF aR qR aB qB wr HRD.out HSMI.out)
                    obtain ⟨z2, n2, hz2⟩ : ∃ z2 n2, checkL ⟨d.start, d.layout, P, d.chains, F, R, B⟩ = (z2, n2) := ⟨_, _, rfl⟩
                    have HZ2 := hide (show z2 = 0 ↔ z1 = 0 by
                      rw [HZ1.out, ← HOKI.out, ← check_ok, hz2])
                    rw [hz2] at HCK2
                    clear hz2 hrP hrF hrR hrB hqP hqF hqR hqB HRWP HRWF HRWR HRWB HRD HDX
                    have y0 := HYY.out.cell 0
                    have y1 := HYY.out.cell 1
                    have y2 := HYY.out.cell 2
                    have y3 := HYY.out.cell 3
                    have y4 := HYY.out.cell 4
                    have y5 := HYY.out.cell 5
                    have y6 := HYY.out.cell 6
                    have yl := HYY.out.lt
                    go_wp2_with fail
                    refine HCK2.out.mono ?_
                    rintro e w6 ⟨rfl, hb6⟩
                    have HB6 := hide (below_next HB1.out (below_next HBW2.out hb6))
                    have HAL := hide (alive_any w6)
                    clear hb6 y0 y1 y2 y3 y4 y5 y6 yl
                    by_cases hz : z1 = 0
                    · have hzz : z2 = 0 := HZ2.out.2 hz
                      have hz1 : (z1 == 0) = true := by simpa using hz
                      have hz2 : (z2 == 0) = true := by simpa using hzz
                      clear hz hzz
                      go_wp2_with fail
                      refine HAL.out.mono ?_
                      rintro e w7 ⟨rfl, hb7⟩
                      go_wp2_with fail
                      go_ret
                      exact ⟨rfl, below_next HB6.out hb7⟩
                    · have hzz : ¬ z2 = 0 := fun h => hz (HZ2.out.1 h)
                      have hz1 : (z1 == 0) = false := by simpa using hz
                      have hz2 : (z2 == 0) = false := by simpa using hzz
                      go_wp2_with fail
                      refine HAL.out.mono ?_
                      rintro e w7 ⟨rfl, hb7⟩
                      go_wp2_with fail
                      go_ret
                      exact ⟨rfl, below_next HB6.out hb7⟩
end Go.Proofs.Ytalicfpcmcbdbaa
