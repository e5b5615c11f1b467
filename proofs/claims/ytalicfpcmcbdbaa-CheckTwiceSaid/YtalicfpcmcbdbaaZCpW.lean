/- The walk of Copy. -/
import Derived.Test.YtalicfpcmcbdbaaZFit
import Derived.Test.YtalicfpcmcbdbaaZAlive
import Derived.Test.YtalicfpcmcbdbaaZRgL
import Derived.StillTailTactics
import Derived.BigQuiet
import Derived.Deep.RegionHeld3
set_option linter.unusedVariables false
set_option linter.unusedSimpArgs false
set_option linter.unnecessarySimpa false
set_option linter.deprecated false
namespace Go.Proofs.Ytalicfpcmcbdbaa
open Go.RowKit

theorem syOk {l : List Sy} {a : Option Addr} {W : World} (h : Row SyAt 8 l a W) : ∀ s ∈ l, s.ok := fun s hs => by
  obtain ⟨i, hi, rfl⟩ := List.mem_iff_getElem.1 hs
  obtain ⟨b, o, _, _, hat⟩ := h.get hi
  exact (hat i hi).1
theorem sySrcs {l : List Sy} {a : Option Addr} {W : World} (h : Row SyAt 8 l a W) : Srcs a l.length (symsC l) W := by
  have := h.srcs (l.map syC) (by simp) (fun cs hcs => by obtain ⟨s, _, rfl⟩ := List.mem_map.1 hcs; rfl) (by decide) (fun i h1 h2 b o hx => by rw [List.getElem_map]; exact hx.2)
  rw [show (l.map syC).flatten = symsC l by unfold symsC; rw [List.flatMap_def]] at this
  exact this
theorem strSrcs {l : List ByteArray} {a : Option Addr} {W : World} (h : Row StrAt 1 l a W) : Srcs a l.length (strsC l) W := by
  have := h.srcs (l.map (fun s => [Value.string s])) (by simp) (fun cs hcs => by obtain ⟨s, _, rfl⟩ := List.mem_map.1 hcs; rfl) (by decide) (fun i h1 h2 b o hx => by
    rw [List.getElem_map]
    intro j u hj
    match j, hj with
    | 0, hj => simp at hj; subst hj; exact hx.2
    | j + 1, hj => simp at hj)
  have hfl : ∀ l : List ByteArray, (l.map (fun s => [Value.string s])).flatten = strsC l := fun l => by
    induction l with
    | nil => rfl
    | cons x l ih => rw [List.map_cons, List.flatten_cons, ih]; rfl
  rw [hfl] at this
  exact this
theorem strShort {l : List ByteArray} {a : Option Addr} {W : World} (h : Row StrAt 1 l a W) : ∀ s ∈ l, short s := fun s hs => by
  obtain ⟨i, hi, rfl⟩ := List.mem_iff_getElem.1 hs
  obtain ⟨b, o, _, _, hat⟩ := h.get hi
  exact (hat i hi).1
theorem flSrcs {l : List Fl} {a : Option Addr} {W : World} (h : Row FlAt 5 l a W) : Srcs a l.length (l.flatMap flC) W := by
  have := h.srcs (l.map flC) (by simp) (fun cs hcs => by obtain ⟨s, _, rfl⟩ := List.mem_map.1 hcs; rfl) (by decide) (fun i h1 h2 b o hx => by rw [List.getElem_map]; exact hx.2)
  rw [← List.flatMap_def] at this
  exact this
theorem rjSrcs {l : List Rj} {a : Option Addr} {W : World} (h : Row RjAt 2 l a W) : Srcs a l.length (l.flatMap rjC) W := by
  have := h.srcs (l.map rjC) (by simp) (fun cs hcs => by obtain ⟨s, _, rfl⟩ := List.mem_map.1 hcs; rfl) (by decide) (fun i h1 h2 b o hx => by rw [List.getElem_map]; exact hx.2)
  rw [← List.flatMap_def] at this
  exact this
theorem flOk {l : List Fl} {a : Option Addr} {W : World} (h : Row FlAt 5 l a W) : ∀ s ∈ l, s.ok := fun s hs => by
  obtain ⟨i, hi, rfl⟩ := List.mem_iff_getElem.1 hs
  obtain ⟨b, o, _, _, hat⟩ := h.get hi
  exact (hat i hi).1
theorem rjOk {l : List Rj} {a : Option Addr} {W : World} (h : Row RjAt 2 l a W) : ∀ s ∈ l, s.ok := fun s hs => by
  obtain ⟨i, hi, rfl⟩ := List.mem_iff_getElem.1 hs
  obtain ⟨b, o, _, _, hat⟩ := h.get hi
  exact (hat i hi).1
theorem flC_len : ∀ l : List Fl, (l.flatMap flC).length = l.length * 5
  | [] => rfl
  | x :: l => by rw [List.flatMap_cons, List.length_append, flC_len l, List.length_cons]; simp [flC]; omega
theorem rjC_len : ∀ l : List Rj, (l.flatMap rjC).length = l.length * 2
  | [] => rfl
  | x :: l => by rw [List.flatMap_cons, List.length_append, rjC_len l, List.length_cons]; simp [rjC]; omega
theorem flC_one : ∀ l : List Fl, ∀ u ∈ l.flatMap flC, u.oneCell' = true := fun l u hu => by
  obtain ⟨s, _, hs⟩ := List.mem_flatMap.1 hu
  unfold flC at hs
  simp only [List.mem_cons, List.not_mem_nil, or_false] at hs
  rcases hs with rfl | rfl | rfl | rfl | rfl <;> rfl
theorem rjC_one : ∀ l : List Rj, ∀ u ∈ l.flatMap rjC, u.oneCell' = true := fun l u hu => by
  obtain ⟨s, _, hs⟩ := List.mem_flatMap.1 hu
  unfold rjC at hs
  simp only [List.mem_cons, List.not_mem_nil, or_false] at hs
  rcases hs with rfl | rfl <;> rfl
theorem Small.fl5 {d : Df} (h : Small d) : d.follows.length ≤ 100000 := by have := h.rl; omega
theorem Small.rl5 {d : Df} (h : Small d) : d.rejects.length ≤ 100000 := by have := h.rl; omega
theorem symsC_one : ∀ l : List Sy, ∀ u ∈ symsC l, u.oneCell' = true := fun l u hu => by
  unfold symsC at hu
  obtain ⟨s, _, hs⟩ := List.mem_flatMap.1 hu
  unfold syC at hs
  simp only [List.mem_cons, List.not_mem_nil, or_false] at hs
  rcases hs with rfl | rfl | rfl | rfl | rfl | rfl | rfl | rfl <;> rfl
theorem symsC_len : ∀ l : List Sy, (symsC l).length = l.length * 8
  | [] => rfl
  | x :: l => by
    have := symsC_len l
    unfold symsC at this ⊢
    rw [List.flatMap_cons, List.length_append, this, List.length_cons]
    simp [syC]; omega
set_option maxHeartbeats 6400000 in
set_option maxRecDepth 100000 in
theorem Copy_any (d : Df) (a2 : Option Addr) (c2 : Nat) (a3 : Option Addr) (c3 : Nat) (a4 : Option Addr) (c4 : Nat) (a5 : Option Addr) (c5 : Nat) (a6 : Option Addr) (c6 : Nat) (w : World) (hd : RD d ⟨a2, c2, a3, c3, a4, c4, a5, c5, a6, c6⟩ w) (hf : FitD d) : Calls Try.prog 13 #[.agg #[.string d.start, .string d.layout, .slice a2 d.prods.length c2, .slice a3 d.chains.length c3, .slice a4 d.follows.length c4, .slice a5 d.rejects.length c5, .slice a6 d.boxes.length c6]] w (CpyP d w) := by
  obtain ⟨i38, hi38, hz38, hy38, hw38⟩ := info_parts info38
  obtain ⟨i48, hi48, hz48, hy48, hw48⟩ := info_parts info48
  obtain ⟨i50, hi50, hz50, hy50, hw50⟩ := info_parts info50
  obtain ⟨i53, hi53, hz53, hy53, hw53⟩ := info_parts info53
  obtain ⟨i61, hi61, hz61, hy61, hw61⟩ := info_parts info61
  obtain ⟨i66, hi66, hz66, hy66, hw66⟩ := info_parts info66
  obtain ⟨i68, hi68, hz68, hy68, hw68⟩ := info_parts info68
  obtain ⟨i9, hi9, hz9, hy9, hw9⟩ := info_parts info9
  have HF := hide hf
  have HBA := hide (NB.alloc (NB.alloc (Below.refl w.heap.size w) (.cells #[.string d.start, .string d.layout, .slice a2 d.prods.length c2, .slice a3 d.chains.length c3, .slice a4 d.follows.length c4, .slice a5 d.rejects.length c5, .slice a6 d.boxes.length c6] 28)) (.cells #[.string ⟨#[]⟩, .string ⟨#[]⟩, .slice none 0 0, .slice none 0 0, .slice none 0 0, .slice none 0 0, .slice none 0 0] 28))
  have HX0 := hide ((Blk.new w #[.string d.start, .string d.layout, .slice a2 d.prods.length c2, .slice a3 d.chains.length c3, .slice a4 d.follows.length c4, .slice a5 d.rejects.length c5, .slice a6 d.boxes.length c6] 28).alloc (.cells #[.string ⟨#[]⟩, .string ⟨#[]⟩, .slice none 0 0, .slice none 0 0, .slice none 0 0, .slice none 0 0, .slice none 0 0] 28))
  have HO0 := hide (NB.new1 (W := w) (o := .cells #[.string d.start, .string d.layout, .slice a2 d.prods.length c2, .slice a3 d.chains.length c3, .slice a4 d.follows.length c4, .slice a5 d.rejects.length c5, .slice a6 d.boxes.length c6] 28) (c := #[.string ⟨#[]⟩, .string ⟨#[]⟩, .slice none 0 0, .slice none 0 0, .slice none 0 0, .slice none 0 0, .slice none 0 0]) (t := 28))
  have HD := hide (hd.below HBA.out)
  have hl2 := hd.p.1
  have hl3 := hd.c.1
  have hl4 := hd.f.1
  have hl5 := hd.j.1
  have hl6 := hd.x.1
  clear hd hf
  go_enter Try.func13, Try.ntmps13
  go_upto_region 1 with fail
  obtain ⟨kx, hkx⟩ : ∃ kx, w.heap.size = kx := ⟨_, rfl⟩
  obtain ⟨w1, h1⟩ : ∃ w1, (w.alloc (.cells #[.string d.start, .string d.layout, .slice a2 d.prods.length c2, .slice a3 d.chains.length c3, .slice a4 d.follows.length c4, .slice a5 d.rejects.length c5, .slice a6 d.boxes.length c6] 28)).alloc (.cells #[.string ⟨#[]⟩, .string ⟨#[]⟩, .slice none 0 0, .slice none 0 0, .slice none 0 0, .slice none 0 0, .slice none 0 0] 28) = w1 := ⟨_, rfl⟩
  rw [h1] at HD HBA HX0 HO0 ⊢
  rw [hkx] at HX0 HO0 ⊢
  have HKX := hide hkx
  clear h1 hkx
  have x0 := HX0.out.cell 0
  have x1 := HX0.out.cell 1
  have xl := HX0.out.lt
  go_upto_region 2 with fail
  obtain ⟨kz, hkz⟩ : ∃ kz, w1.heap.size = kz := ⟨_, rfl⟩
  obtain ⟨w2, h2⟩ : ∃ w2, w1.alloc (.cells #[.string d.start, .string d.layout, .slice none 0 0, .slice none 0 0, .slice none 0 0, .slice none 0 0, .slice none 0 0] 28) = w2 := ⟨_, rfl⟩
  have HT := hide (show CpS d w1 kz 0 0 0 0 0 (.slice none 0 0) (.slice none 0 0) (.slice none 0 0) (.slice none 0 0) (.slice none 0 0) [] [] [] [] [] w2 from by
    rw [← h2]
    exact ⟨NB.alloc (Below.refl _ _) _, by omega, by rw [← hkz]; exact Blk.new w1 _ _, OwnE.nil _ _ _ _, OwnE.nil _ _ _ _, OwnE.nil _ _ _ _, OwnE.nil _ _ _ _, OwnE.nil _ _ _ _⟩)
  have HKZ := hide hkz
  rw [h2, hkz]
  clear h2 hkz x0 x1 xl
  go_wp2_with fail
  go_loopg [4] d.prods.length (fun u v4 wr => ∃ k v css, Hid (u = d.prods.length - k) ∧ v4 = .int .i64 (k : Int) ∧ Hid (k ≤ d.prods.length ∧ CpS d w1 kz k 0 0 0 0 v (.slice none 0 0) (.slice none 0 0) (.slice none 0 0) (.slice none 0 0) css [] [] [] [] wr))
  case atStart => exact ⟨0, _, _, hide rfl, rfl, hide ⟨Nat.zero_le _, HT.out⟩⟩
  case round =>
    obtain ⟨k, v, css, hu, rfl, hh⟩ := hrel
    have hkl := hh.out.1
    have HBW := hide hh.out.2.g
    have hxk := HX0.out.below HBW.out
    have q2 := hxk.cell 2
    have ql := hxk.lt
    clear hxk
    by_cases hlt : k < d.prods.length
    · have hlti : (k : Int) < (d.prods.length : Int) := by omega
      obtain ⟨b, o, rfl, hb, hat⟩ := HD.out.p.get hlt
      have hx1 := hat k hlt
      have HTK := hide (take_snoc d.prods k hlt)
      have HSL := hide (HF.out.s.sl5 _ (List.getElem_mem hlt))
      generalize d.prods[k] = x at hx1 HTK HSL
      clear hat
      obtain ⟨lx, so, cn, br, sy⟩ := x
      obtain ⟨hok, ap, cp, hca, hrw, hcp⟩ := hx1
      have e0 := (HBW.out.cell (p := ⟨b, o + k * 5, none⟩) hb).trans (hca 0 _ rfl)
      have e1 := (HBW.out.cell (p := ⟨b, o + k * 5 + 1, none⟩) hb).trans (hca 1 _ rfl)
      have e2 := (HBW.out.cell (p := ⟨b, o + k * 5 + 2, none⟩) hb).trans (hca 2 _ rfl)
      have e3 := (HBW.out.cell (p := ⟨b, o + k * 5 + 3, none⟩) hb).trans (hca 3 _ rfl)
      have e4 := (HBW.out.cell (p := ⟨b, o + k * 5 + 4, none⟩) hb).trans (hca 4 _ rfl)
      have hbw : b < wr.heap.size := Nat.lt_of_lt_of_le hb HBW.out.size
      have HOKP := hide hok
      have HRW := hide hrw
      have hsl : sy.length ≤ 100000 := HSL.out
      have hsl2 := hrw.1
      have HTS := hide hh.out.2
      have hcl : css.length + 1 ≤ 100001 := by have h1 := hh.out.2.p.len; rw [List.length_take] at h1; have := HF.out.s.pl5; omega
      clear hok hca hrw hcp hh
      go_upto_region 7 with fail
      obtain ⟨kp, hkp⟩ : ∃ kp, wr.heap.size = kp := ⟨_, rfl⟩
      obtain ⟨w6, h6⟩ : ∃ w6, wr.alloc (.cells #[.bool lx, .string so, .string cn, .bool br, .slice ap sy.length cp] 38) = w6 := ⟨_, rfl⟩
      have HB6 := hide (show Below wr.heap.size wr w6 by rw [← h6]; exact NB.alloc (Below.refl _ _) _)
      have HP6 := hide (show Blk w6 kp #[.bool lx, .string so, .string cn, .bool br, .slice ap sy.length cp] 38 by rw [← h6, ← hkp]; exact Blk.new wr _ _)
      have HKP := hide hkp
      rw [h6, hkp]
      clear h6 hkp e0 e1 e2 e3 e4 q2 ql hb hbw
      have p4 := HP6.out.cell 4
      have pl := HP6.out.lt
      have HSR := hide (sySrcs (HRW.out.below SyAt.stable (below_next HBW.out HB6.out)))
      go_upto_region 9 with (at_builtin; refine wpList_append_src rfl _ _ 36 rfl w6.heap.size 61 i61 _ 8 88 Try.underlying36 hi61 hz61 hy61 hw61 rfl (by decide) (.slice none 0 0) 0 [] rfl (World.ownsRow_nil _ _ _ _) ap sy.length cp (symsC sy) rfl HSR.out (symsC_len sy) (symsC_one sy) (by unfold maxLen; omega) (by omega) (Nat.le_refl _) ?_; intro v7 w7 ho7 hg7; rw [Nat.zero_add, List.nil_append] at ho7; obtain ⟨a9, c9, hv7, _⟩ := own_shape ho7; subst hv7; have HO7 := hide ho7; have HG7 := hide hg7; have HP7 := hide (HP6.out.grown hg7 (by intro e; cases e)); clear ho7 hg7 p4 pl; have p4 := HP7.out.cell 4; have pl := HP7.out.lt; have pf := HP7.out.free 4)
      have HP8 := hide (HP7.out.set 4 (.slice a9 sy.length c9))
      have HB7 := hide (HB6.out.grown HG7.out HB6.out.size (fun g e => by cases e))
      have HB8 := hide (HB7.out.setCell (by have := HKP.out; simp only; omega) (.slice a9 sy.length c9) : Below wr.heap.size wr (w7.setCell ⟨kp, 4, none⟩ (.slice a9 sy.length c9)))
      have HO8 := hide (own_set (i := 4) (u := .slice a9 sy.length c9) HO7.out HP7.out (by decide))
      have HTS8 := hide (HTS.out.below HB8.out)
      clear p4 pl pf HP7 HP6 HB6 HB7 HSR HG7 HO7 HTS
      generalize w7.setCell ⟨kp, 4, none⟩ (.slice a9 sy.length c9) = w8 at HP8 HB8 HO8 HTS8 ⊢
      have p0 := HP8.out.cell 0
      have p1 := HP8.out.cell 1
      have p2 := HP8.out.cell 2
      have p3 := HP8.out.cell 3
      have p4 := HP8.out.cell 4
      have pl := HP8.out.lt
      have z2 := HTS8.out.y.cell 2
      have zl := HTS8.out.y.lt
      have hown := HTS8.out.p.own
      have hbs := HTS8.out.g.size
      have HPU := hide (fun v' wz (ho : World.ownsRow wz w1.heap.size 38 5 v' (css.length + 1) (css.flatten ++ [.bool lx, .string so, .string cn, .bool br, .slice a9 sy.length c9])) (hg : (w8.alloc (.cells #[.bool lx, .string so, .string cn, .bool br, .slice a9 sy.length c9] 38)).grownBy wz v.ownBlock) => HTS8.out.pushP ho (NB.alloc (Below.refl w8.heap.size w8) _) hg rfl (show EP ⟨lx, so, cn, br, sy⟩ [.bool lx, .string so, .string cn, .bool br, .slice a9 sy.length c9] (w8.alloc (.cells #[.bool lx, .string so, .string cn, .bool br, .slice a9 sy.length c9] 38)) from ⟨_, rfl, HOKP.out, syOk HRW.out, own_base (HO8.out.alloc _) (Nat.zero_le _)⟩) HTK.out)
      clear HTS8
      go_wp2_with (at_builtin; refine wpList_append_own _ rfl _ _ 22 rfl w1.heap.size 38 i38 _ 5 72 Try.underlying22 hi38 hz38 hy38 hw38 rfl (by decide) v css.length css.flatten rfl (hown.alloc _) ⟨w8.heap.size, 0, none⟩ 1 1 [.bool lx, .string so, .string cn, .bool br, .slice a9 sy.length c9] rfl rfl (cells_at _ _ _ _ rfl) (by simp [Value.oneCell']) (by unfold maxLen; omega) (by omega) (by simp; omega) ?_; intro v' wz ho hg _; obtain ⟨hyz, hts⟩ := HPU.out v' wz ho hg; obtain ⟨g', cap', rfl⟩ := ownsRow_succ ho; have HTN := hide hts; clear ho hg hts p0 p1 p2 p3 p4 pl z2 zl hown HPU; have z2 := hyz.cell 2; have zl := hyz.lt; have zf := hyz.free 2; clear hyz)
      go_roundg (d.prods.length - (k + 1))
      case measure => rw [hu.out]; omega
      case rel => exact ⟨k + 1, _, _, hide rfl, by go_num, hide ⟨hlt, HTN.out⟩⟩
    · have hlti : ¬ (k : Int) < (d.prods.length : Int) := by omega
      have hke : k = d.prods.length := by omega
      subst hke
      have HT2 := hide hh.out.2
      obtain ⟨vP, rfl⟩ : ∃ x, x = v := ⟨_, rfl⟩
      obtain ⟨cP, rfl⟩ : ∃ x, x = css := ⟨_, rfl⟩
      clear HT hh hu HBW
      have q3 := (HX0.out.below HT2.out.g).cell 3
      go_wp2_with fail
      clear q2 q3 ql
      go_loopg [7, 8, 9] d.chains.length (fun u v7 v8 v9 wr => ∃ k v css, Hid (u = d.chains.length - k) ∧ v7 = .int .i64 (k : Int) ∧ Hid (k ≤ d.chains.length ∧ CpS d w1 kz d.prods.length k 0 0 0 vP v (.slice none 0 0) (.slice none 0 0) (.slice none 0 0) cP css [] [] [] wr))
      case atStart => exact ⟨0, _, _, hide rfl, rfl, hide ⟨Nat.zero_le _, HT2.out⟩⟩
      case round =>
        obtain ⟨k, v, css, hu, rfl, hh⟩ := hrel
        have hkl := hh.out.1
        have HBW := hide hh.out.2.g
        have q3 := (HX0.out.below HBW.out).cell 3
        have ql := (HX0.out.below HBW.out).lt
        by_cases hlt : k < d.chains.length
        · have hlti : (k : Int) < (d.chains.length : Int) := by omega
          obtain ⟨b, o, rfl, hb, hat⟩ := HD.out.c.get hlt
          have hx1 := hat k hlt
          rw [Nat.mul_one] at hx1
          have HTK := hide (take_snoc d.chains k hlt)
          have HGL := hide (HF.out.gl _ (List.getElem_mem hlt))
          have HNL := hide (HF.out.nl _ (List.getElem_mem hlt))
          generalize d.chains[k] = ch at hx1 HTK HGL HNL
          clear hat
          obtain ⟨ac, cc, hca, hrw⟩ := hx1
          have HCA := hide (show ∀ W, Below w1.heap.size w1 W → W.cell? ⟨b, o + k, none⟩ = some (.slice ac ch.length cc) from fun W h => (h.cell (p := ⟨b, o + k, none⟩) hb).trans hca)
          have HBL := hide hb
          have HRW := hide hrw
          have hgl : ch.length ≤ 100000 := HGL.out
          have hgl2 := hrw.1
          have HTS := hide hh.out.2
          have hcl : css.length + 1 ≤ 100001 := by have h1 := hh.out.2.c.len; rw [List.length_take] at h1; have := HF.out.cl; omega
          clear hca hrw hh hb
          obtain ⟨wo, rfl⟩ : ∃ wo : World, wo = wr := ⟨_, rfl⟩
          go_wp2_with fail
          clear q3 ql
          go_loopg [8, 9] ch.length (fun u v8 v9 wq => ∃ j css', Hid (u = ch.length - j) ∧ v9 = .int .i64 (j : Int) ∧ Hid (j ≤ ch.length ∧ Below wo.heap.size wo wq ∧ OwnE EG wo.heap.size 68 2 (ch.take j) v8 css' wq))
          case atStart => exact ⟨0, [], hide rfl, rfl, hide ⟨Nat.zero_le _, Below.refl _ _, OwnE.nil _ _ _ _⟩⟩
          case round =>
            obtain ⟨j, css', hv, rfl, hq⟩ := hrel
            have hjl := hq.out.1
            have HBQ := hide (below_next HBW.out hq.out.2.1)
            have q3 := (HX0.out.below HBQ.out).cell 3
            have ql := (HX0.out.below HBQ.out).lt
            have f0 := HCA.out _ HBQ.out
            have hb1 := Nat.lt_of_lt_of_le HBL.out HBQ.out.size
            by_cases hltj : j < ch.length
            · have hltji : (j : Int) < (ch.length : Int) := by omega
              obtain ⟨b2, o2, rfl, hb2, hat2⟩ := HRW.out.get hltj
              have hx2 := hat2 j hltj
              have HTJ := hide (take_snoc ch j hltj)
              have HNG := hide (HNL.out _ (List.getElem_mem hltj))
              generalize ch[j] = g at hx2 HTJ HNG
              clear hat2
              obtain ⟨as0, co⟩ := g
              obtain ⟨has, ag, cg, hcg, hrg⟩ := hx2
              have HAS := hide has
              have HC0 := hide (show ∀ W, Below w1.heap.size w1 W → W.cell? ⟨b2, o2 + j * 2, none⟩ = some (.int .i64 as0) from fun W h => (h.cell (p := ⟨b2, o2 + j * 2, none⟩) hb2).trans (hcg 0 _ rfl))
              have HC1 := hide (show ∀ W, Below w1.heap.size w1 W → W.cell? ⟨b2, o2 + j * 2 + 1, none⟩ = some (.slice ag co.length cg) from fun W h => (h.cell (p := ⟨b2, o2 + j * 2 + 1, none⟩) hb2).trans (hcg 1 _ rfl))
              have HBL2 := hide hb2
              have HRG := hide hrg
              have hng : co.length ≤ 100000 := HNG.out
              have hng2 := hrg.1
              have g0 := HC0.out _ HBQ.out
              have hb2w := Nat.lt_of_lt_of_le hb2 HBQ.out.size
              have hrv : ((wr.alloc (.cells #[.int .i64 as0, .slice none 0 0] 68)).heap.size : Nat) = wr.heap.size + 1 := by simp
              have HQ := hide hq.out
              have hcl2 : css'.length + 1 ≤ 100001 := by have h1 := hq.out.2.2.len; rw [List.length_take] at h1; omega
              clear has hcg hrg hb2 hq hrv
              go_upto_region 18 with fail
              obtain ⟨kg, hkg⟩ : ∃ kg, wr.heap.size = kg := ⟨_, rfl⟩
              obtain ⟨w6, h6⟩ : ∃ w6, wr.alloc (.cells #[.int .i64 as0, .slice none 0 0] 68) = w6 := ⟨_, rfl⟩
              have HB6 := hide (show Below wr.heap.size wr w6 by rw [← h6]; exact NB.alloc (Below.refl _ _) _)
              have HG6 := hide (show Blk w6 kg #[.int .i64 as0, .slice none 0 0] 68 by rw [← h6, ← hkg]; exact Blk.new wr _ _)
              have HKG := hide hkg
              rw [h6, hkg]
              clear h6 hkg f0 g0 q3 ql hb1 hb2w
              go_cut [] from 68 to 80 (fun wc => ∃ a9 c9, Hid (Below wr.heap.size wr wc ∧ Blk wc kg #[.int .i64 as0, .slice a9 co.length c9] 68 ∧ wc.ownsRow wr.heap.size 9 1 (.slice a9 co.length c9) co.length (strsC co)))
              case first =>
                have HB16 := hide (below_next HBQ.out HB6.out)
                have q3 := (HX0.out.below HB16.out).cell 3
                have ql := (HX0.out.below HB16.out).lt
                have f0 := HCA.out _ HB16.out
                have hb1 := Nat.lt_of_lt_of_le HBL.out HB16.out.size
                have g1 := HC1.out _ HB16.out
                have hb2w := Nat.lt_of_lt_of_le HBL2.out HB16.out.size
                have p1 := HG6.out.cell 1
                have pl := HG6.out.lt
                have HSR := hide (show ∀ W, Below w6.heap.size w6 W → Srcs ag co.length (strsC co) W from fun W h => strSrcs (HRG.out.below StrAt.stable (below_next HB16.out h)))
                have HST := hide (show ∀ v' wz, wz.ownsRow wr.heap.size 9 1 v' co.length (strsC co) → w6.drew.grownBy wz none → Blk wz kg #[.int .i64 as0, .slice none 0 0] 68 ∧ (Below wr.heap.size wr (wz.setCell ⟨kg, 1, none⟩ v') ∧ Blk (wz.setCell ⟨kg, 1, none⟩ v') kg #[.int .i64 as0, v'] 68 ∧ (wz.setCell ⟨kg, 1, none⟩ v').ownsRow wr.heap.size 9 1 v' co.length (strsC co)) from fun v' wz ho hg => by
                  have hgb : Blk wz kg #[.int .i64 as0, .slice none 0 0] 68 := (show Blk w6.drew kg _ 68 from HG6.out).grown hg (by intro e; cases e)
                  refine ⟨hgb, ?_, hgb.set 1 v', own_set ho hgb (by decide)⟩
                  exact ((HB6.out.drew).grown hg HB6.out.size (fun g e => by cases e)).setCell (by have := HKG.out; simp only; omega) v')
                go_region_law (refine step_append_src rfl (.tmp 69) (.tmp 78) 56 rfl wr.heap.size 9 i9 _ 1 16 Try.underlying56 hi9 hz9 hy9 hw9 rfl (by decide) (.slice none 0 0) 0 [] (by simp [Act.eval, Act.put]) (World.ownsRow_nil _ _ _ _) ag co.length cg (strsC co) (by simp [Act.eval, Act.put]) (HSR.out _ (Below.refl w6.heap.size w6).drew) (by unfold strsC; simp) strsC_one (by unfold maxLen; omega) (by omega) (by have := HB6.out.size; simp; omega) ?_; intro v' wz hown' hgrow; rw [Nat.zero_add, List.nil_append] at hown'; obtain ⟨a9, c9, hv9, _⟩ := own_shape hown'; subst hv9; obtain ⟨hgz, hpr⟩ := HST.out _ _ hown' hgrow; have HPR := hide hpr; have r1 := hgz.cell 1; have rl := hgz.lt; have rf := hgz.free 1; clear hown' hgrow hgz hpr)
                all_goals
                  go_wp2_with fail
                  go_meet
                  first
                  | exact ⟨a9, c9, HPR⟩
                  | exact ⟨a9, c9, hide ⟨HPR.out.1.drew, HPR.out.2.1, HPR.out.2.2⟩⟩
              case rest =>
                obtain ⟨a9, c9, hc⟩ := hcut
                have HC := hide hc.out
                have HOW := hide (HQ.out.2.2.touch (Touch.of_below (t := 28) HC.out.1) (by decide) (EG.st (by decide)))
                have hown := HOW.out.own
                have p0 := HC.out.2.1.cell 0
                have p1 := HC.out.2.1.cell 1
                have pl := HC.out.2.1.lt
                have hbs := (below_next HQ.out.2.1 HC.out.1).size
                have HPU := hide (fun v' wz (ho : World.ownsRow wz wo.heap.size 68 2 v' (css'.length + 1) (css'.flatten ++ [.int .i64 as0, .slice a9 co.length c9])) (hg : (wc.alloc (.cells #[.int .i64 as0, .slice a9 co.length c9] 68)).grownBy wz u8.ownBlock) => (show OwnE EG wo.heap.size 68 2 (ch.take j ++ [⟨as0, co⟩]) v' (css' ++ [[.int .i64 as0, .slice a9 co.length c9]]) wz from
                  (HOW.out.touch (Touch.of_below (t := 28) (NB.alloc (Below.refl wc.heap.size wc) (.cells #[.int .i64 as0, .slice a9 co.length c9] 68))) (by decide) (EG.st (by decide))).push ho rfl rfl (Touch.of_own (own_below HOW.out.own (NB.alloc (Below.refl wc.heap.size wc) (.cells #[.int .i64 as0, .slice a9 co.length c9] 68))) hg) (EG.st (by decide)) (show EG ⟨as0, co⟩ [.int .i64 as0, .slice a9 co.length c9] (wc.alloc (.cells #[.int .i64 as0, .slice a9 co.length c9] 68)) from ⟨_, rfl, HAS.out, own_base (HC.out.2.2.alloc _) (Nat.zero_le _), strShort HRG.out⟩)))
                clear hc
                go_wp2_with (at_builtin; refine wpList_append_own _ rfl _ _ 66 rfl wo.heap.size 68 i68 _ 2 32 Try.underlying66 hi68 hz68 hy68 hw68 rfl (by decide) u8 css'.length css'.flatten rfl (hown.alloc _) ⟨wc.heap.size, 0, none⟩ 1 1 [.int .i64 as0, .slice a9 co.length c9] rfl rfl (cells_at _ _ _ _ rfl) (by simp [Value.oneCell']) (by unfold maxLen; omega) (by omega) (by simp; omega) ?_; intro v' wz ho hg _; have HTN := hide (HPU.out v' wz ho hg); have HBZ := hide (show Below wo.heap.size wo wz from ((below_next HQ.out.2.1 HC.out.1).alloc (below_next HQ.out.2.1 HC.out.1).size (.cells #[.int .i64 as0, .slice a9 co.length c9] 68)).grown hg (by have := (below_next HQ.out.2.1 HC.out.1).size; simp; omega) (fun g hgg => own_block_ge HOW.out.own g hgg)); clear ho hg p0 p1 pl hown HPU)
                go_roundg (ch.length - (j + 1))
                case measure => rw [hv.out]; omega
                case rel => exact ⟨j + 1, _, hide rfl, by go_num, hide ⟨hltj, HBZ.out, by rw [HTJ.out]; exact HTN.out⟩⟩
            · have hltji : ¬ (j : Int) < (ch.length : Int) := by omega
              have HQE := hide hq.out.2.2
              rw [List.take_of_length_le (by omega)] at HQE
              have HBQ2 := hide hq.out.2.1
              obtain ⟨a10, c10, hu8, _⟩ := own_shape HQE.out.own
              subst hu8
              have HTS2 := hide (HTS.out.below HBQ2.out)
              have z3 := HTS2.out.y.cell 3
              have zl := HTS2.out.y.lt
              have hown := HTS2.out.c.own
              have hbs := HTS2.out.g.size
              have HPU := hide (fun v' wz (ho : World.ownsRow wz w1.heap.size 66 1 v' (css.length + 1) (css.flatten ++ [.slice a10 css'.length c10])) (hg : (wr.alloc (.cells #[.slice a10 css'.length c10] 66)).grownBy wz v.ownBlock) => HTS2.out.pushC ho (NB.alloc (Below.refl wr.heap.size wr) _) hg rfl (show EC ch [.slice a10 css'.length c10] (wr.alloc (.cells #[.slice a10 css'.length c10] 66)) from ⟨_, css', rfl, (HQE.out.touch (Touch.of_below (t := 28) (NB.alloc (Below.refl wr.heap.size wr) _)) (by decide) (EG.st (by decide))).base (Nat.zero_le _)⟩) HTK.out)
              clear hq HTS2
              go_wp2_with (at_builtin; refine wpList_append_own _ rfl _ _ 23 rfl w1.heap.size 66 i66 _ 1 24 Try.underlying23 hi66 hz66 hy66 hw66 rfl (by decide) v css.length css.flatten rfl (hown.alloc _) ⟨wr.heap.size, 0, none⟩ 1 1 [.slice a10 css'.length c10] rfl rfl (cells_at _ _ _ _ rfl) (by simp [Value.oneCell']) (by unfold maxLen; omega) (by omega) (by simp; omega) ?_; intro v' wz ho hg _; obtain ⟨hyz, hts⟩ := HPU.out v' wz ho hg; obtain ⟨g', cap', rfl⟩ := ownsRow_succ ho; have HTN := hide hts; clear ho hg hts z3 zl hown HPU; have z3 := hyz.cell 3; have zl := hyz.lt; have zf := hyz.free 3; clear hyz)
              go_roundg (d.chains.length - (k + 1))
              case measure => rw [hu.out]; omega
              case rel => exact ⟨k + 1, _, _, hide rfl, by go_num, hide ⟨hlt, HTN.out⟩⟩
        · have hlti : ¬ (k : Int) < (d.chains.length : Int) := by omega
          have hke : k = d.chains.length := by omega
          subst hke
          have HT3 := hide hh.out.2
          obtain ⟨vC, rfl⟩ : ∃ x, x = v := ⟨_, rfl⟩
          obtain ⟨cC, rfl⟩ : ∃ x, x = css := ⟨_, rfl⟩
          clear HT2 hh hu HBW
          have q4 := (HX0.out.below HT3.out.g).cell 4
          have z4 := HT3.out.y.cell 4
          have zl := HT3.out.y.lt
          have hlF := HF.out.s.fl5
          have hlR := HF.out.s.rl5
          have HSF := hide (flSrcs (HD.out.f.below FlAt.stable HT3.out.g))
          have HSZ := hide HT3.out.g.size
          go_upto_region 22 with (at_builtin; refine wpList_append_src rfl _ _ 24 rfl w1.heap.size 48 i48 _ 5 48 Try.underlying24 hi48 hz48 hy48 hw48 rfl (by decide) (.slice none 0 0) 0 [] rfl (World.ownsRow_nil _ _ _ _) a4 d.follows.length c4 (d.follows.flatMap flC) rfl HSF.out (flC_len _) (flC_one _) (by unfold maxLen; omega) (by omega) HSZ.out ?_; intro v7 wz ho7 hg7; rw [Nat.zero_add, List.nil_append] at ho7; obtain ⟨a9, c9, hv7, _⟩ := own_shape ho7; subst hv7; obtain ⟨hyz, hts⟩ := CpS.allF (kF := 0) (vF := .slice none 0 0) (cF := []) HT3.out ho7 hg7 (flOk HD.out.f); have HT4 := hide hts; clear ho7 hg7 hts q3 q4 ql z4 zl; have z4 := hyz.cell 4; have zl := hyz.lt; have zf := hyz.free 4; clear hyz)
          clear z4 zl zf HSF HSZ HT3
          generalize wz.setCell ⟨kz, 4, none⟩ (.slice a9 d.follows.length c9) = w8 at HT4 ⊢
          have q5 := (HX0.out.below HT4.out.g).cell 5
          have ql := (HX0.out.below HT4.out.g).lt
          have z5 := HT4.out.y.cell 5
          have zl := HT4.out.y.lt
          have HSR := hide (rjSrcs (HD.out.j.below RjAt.stable HT4.out.g))
          have HSZ := hide HT4.out.g.size
          go_upto_region 23 with (at_builtin; refine wpList_append_src rfl _ _ 25 rfl w1.heap.size 50 i50 _ 2 32 Try.underlying25 hi50 hz50 hy50 hw50 rfl (by decide) (.slice none 0 0) 0 [] rfl (World.ownsRow_nil _ _ _ _) a5 d.rejects.length c5 (d.rejects.flatMap rjC) rfl HSR.out (rjC_len _) (rjC_one _) (by unfold maxLen; omega) (by omega) HSZ.out ?_; intro v8 wy ho8 hg8; rw [Nat.zero_add, List.nil_append] at ho8; obtain ⟨a11, c11, hv8, _⟩ := own_shape ho8; subst hv8; obtain ⟨hyz, hts⟩ := CpS.allR (kR := 0) (vR := .slice none 0 0) (cR := []) HT4.out ho8 hg8 (rjOk HD.out.j); have HT5 := hide hts; clear ho8 hg8 hts q5 ql z5 zl; have z5 := hyz.cell 5; have zl := hyz.lt; have zf := hyz.free 5; clear hyz)
          clear z5 zl zf HSR HSZ HT4
          generalize wy.setCell ⟨kz, 5, none⟩ (.slice a11 d.rejects.length c11) = w9 at HT5 ⊢
          have q6 := (HX0.out.below HT5.out.g).cell 6
          have ql := (HX0.out.below HT5.out.g).lt
          go_wp2_with fail
          clear q6 ql
          go_loopg [11] d.boxes.length (fun u v11 wr => ∃ k v css, Hid (u = d.boxes.length - k) ∧ v11 = .int .i64 (k : Int) ∧ Hid (k ≤ d.boxes.length ∧ CpS d w1 kz d.prods.length d.chains.length d.follows.length d.rejects.length k vP vC (.slice a9 d.follows.length c9) (.slice a11 d.rejects.length c11) v cP cC (d.follows.map flC) (d.rejects.map rjC) css wr))
          case atStart => exact ⟨0, _, _, hide rfl, rfl, hide ⟨Nat.zero_le _, HT5.out⟩⟩
          case round =>
            obtain ⟨k, v, css, hu, rfl, hh⟩ := hrel
            have hkl := hh.out.1
            have HBW := hide hh.out.2.g
            have q6 := (HX0.out.below HBW.out).cell 6
            have ql := (HX0.out.below HBW.out).lt
            by_cases hlt : k < d.boxes.length
            · have hlti : (k : Int) < (d.boxes.length : Int) := by omega
              obtain ⟨b, o, rfl, hb, hat⟩ := HD.out.x.get hlt
              have hx1 := hat k hlt
              have HTK := hide (take_snoc d.boxes k hlt)
              have HFX := hide (HF.out.bx _ (List.getElem_mem hlt))
              generalize d.boxes[k] = x at hx1 HTK HFX
              clear hat
              obtain ⟨cn, its⟩ := x
              obtain ⟨hcn, ai, ci, hca, hri⟩ := hx1
              have HCN := hide hcn
              have hil := hri.1
              have HE := hide (show ∀ W, Below w1.heap.size w1 W → W.cell? ⟨b, o + k * 2, none⟩ = some (.string cn) ∧ W.cell? ⟨b, o + k * 2 + 1, none⟩ = some (.slice ai its.length ci) ∧ b < W.heap.size from fun W h => ⟨(h.cell (p := ⟨b, o + k * 2, none⟩) hb).trans (hca 0 _ rfl), (h.cell (p := ⟨b, o + k * 2 + 1, none⟩) hb).trans (hca 1 _ rfl), Nat.lt_of_lt_of_le hb h.size⟩)
              have HTS := hide hh.out.2
              have hcl : css.length + 1 ≤ 100001 := by have h1 := hh.out.2.b.len; rw [List.length_take] at h1; have := HF.out.s.bl; omega
              obtain ⟨e0, e1, hbw⟩ := HE.out _ HBW.out
              have z6 := HTS.out.y.cell 6
              have zl := HTS.out.y.lt
              have zf := HTS.out.y.free 6
              have hbs := HTS.out.g.size
              have HS := hide (fun (W : World) (h : Below w1.heap.size w1 W) => (show (Hid (Below w1.heap.size w1 W) ∧ kx < W.heap.size ∧ W.cell? ⟨kx, 6, none⟩ = some (.slice (some ⟨b, o, none⟩) d.boxes.length c6) ∧ b < W.heap.size ∧ W.cell? ⟨b, o + k * 2, none⟩ = some (.string cn) ∧ W.cell? ⟨b, o + k * 2 + 1, none⟩ = some (.slice ai its.length ci)) from
                have hx := HX0.out.below h
                have hf := HE.out W h
                ⟨hide h, hx.lt, hx.cell 6, hf.2.2, hf.1, hf.2.1⟩))
              have HB1W := hide HBW.out
              have HKZ1 := hide HTS.out.z
              have HXS := hide (show Calls Try.prog 33 #[.slice ai its.length ci] wr.drew fun e w3 => ∃ vj, e = .returned vj ∧ ∃ an nn cc css9, vj = .slice an nn cc ∧ Hid (OwnE (EIt (fun _ => True)) 0 96 4 its (.slice an nn cc) css9 w3 ∧ Below wr.heap.size wr w3) ∧ w3.cell? ⟨kz, 6, none⟩ = some v ∧ kz < w3.heap.size ∧ w3.frozen? ⟨kz, 6, none⟩ = false ∧ (fun W => (Hid (Below w1.heap.size w1 W) ∧ kx < W.heap.size ∧ W.cell? ⟨kx, 6, none⟩ = some (.slice (some ⟨b, o, none⟩) d.boxes.length c6) ∧ b < W.heap.size ∧ W.cell? ⟨b, o + k * 2, none⟩ = some (.string cn) ∧ W.cell? ⟨b, o + k * 2 + 1, none⟩ = some (.slice ai its.length ci))) w3 ∧ w1.heap.size ≤ w3.heap.size ∧ w3.ownsRow w1.heap.size 53 2 v css.length css.flatten from
                (copyItems_all _ its (Nat.lt_succ_self _) HFX.out ai ci wr.drew (hri.below ItAt.stable HBW.out.drew)).mono (fun e w3 h => by
                  obtain ⟨vj, css9, rfl, h1, h2⟩ := h
                  have h3 : Below wr.heap.size wr w3 := below_next (Below.refl wr.heap.size wr).drew h2
                  have h4 := HTS.out.below h3
                  obtain ⟨an, cc, rfl, _⟩ := own_shape h1.own
                  exact ⟨_, rfl, an, _, cc, css9, rfl, hide ⟨(h1.base (Nat.zero_le _)).keep (own_base h1.own (Nat.zero_le _)) (fun x cs he => EIt.keep x cs w3 w3 (fun _ _ _ h => h) (fun _ _ _ => trivial) he), h3⟩, h4.y.cell 6, h4.y.lt, h4.y.free 6, HS.out w3 h4.g, h4.g.size, h4.b.own⟩))
              have HST := hide (fun (w3 w4 : World) (v' : Value) (an : Option Addr) (nn cc : Nat) (css9 : List (List Value)) (h1 : Hid (OwnE (EIt (fun _ => True)) 0 96 4 its (.slice an nn cc) css9 w3 ∧ Below wr.heap.size wr w3)) (ho : World.ownsRow w4 w1.heap.size 53 2 v' (css.length + 1) (css.flatten ++ [.string cn, .slice an nn cc])) (hg : (w3.alloc (.cells #[.string cn, .slice an nn cc] 53)).grownBy w4 v.ownBlock) => HTS.out.pushB ho (h1.out.2.alloc h1.out.2.size (.cells #[.string cn, .slice an nn cc] 53)) hg rfl (show EB ⟨cn, its⟩ [.string cn, .slice an nn cc] (w3.alloc (.cells #[.string cn, .slice an nn cc] 53)) from ⟨_, css9, rfl, HCN.out, h1.out.1.touch (Touch.of_below (t := 28) (NB.alloc (Below.refl w3.heap.size w3) _)) (by decide) (EIt.st (by decide))⟩) HTK.out)
              clear hcn hca hri hh hb
              go_upto_block 7 with fail
              go_cut [] from 110 to 128 (fun wc => ∃ v' css', Hid (CpS d w1 kz d.prods.length d.chains.length d.follows.length d.rejects.length (k + 1) vP vC (.slice a9 d.follows.length c9) (.slice a11 d.rejects.length c11) v' cP cC (d.follows.map flC) (d.rejects.map rjC) css' wc))
              case first =>
                clear HTK HFX HF HD HX0 HO0 HBA HKX HKZ HT5 HBW HCN HE HTS hl2 hl3 hl4 hl5 hil hlF hlR hkl hu
                clear hi38 hz38 hy38 hw38 hi48 hz48 hy48 hw48 hi50 hz50 hy50 hw50 hi61 hz61 hy61 hw61 hi66 hz66 hy66 hw66 hi68 hz68 hy68 hw68 hi9 hz9 hy9 hw9
                have hbd : Below w1.heap.size w1 wr.drew := HB1W.out.drew
                have hs0 := HS.out _ hbd
                go_upto_region 26 with fail
                refine wp_region_lex 17 [true, true, true, true, true, true, true, true, true, true, true, true, true, true, false, true, false] (fun W => (Hid (Below w1.heap.size w1 W) ∧ kx < W.heap.size ∧ W.cell? ⟨kx, 6, none⟩ = some (.slice (some ⟨b, o, none⟩) d.boxes.length c6) ∧ b < W.heap.size ∧ W.cell? ⟨b, o + k * 2, none⟩ = some (.string cn) ∧ W.cell? ⟨b, o + k * 2 + 1, none⟩ = some (.slice ai its.length ci)) ∧ W.cell? ⟨kz, 6, none⟩ = some v) rfl (by kernel_rfl) (by kernel_rfl) (fun _ _ d _ _ h => by cases d <;> exact h) ⟨hs0, z6⟩ (fun hS0 => ?_)
                simp only [List.take_succ_cons, List.take_zero, List.drop_succ_cons, List.drop_zero, List.zip_cons_cons, List.zip_nil_left, List.zip_nil_right]
                repeat
                  refine wpLex_take (v := ?_) (by rfl) ?_ ?_
                  rotate_left
                  · intro w hSw
                    (try dsimp only at hSw)
                    go_simp
                    try with_reducible rfl
                  try simp only [Act.put, List.setIfInBounds_toArray, List.set_cons_zero, List.set_cons_succ]
                refine wpLex_step (fun K hK => ?_)
                go_simp
                refine HXS.out.mono ?_
                rintro e w3 ⟨vj, rfl, an, nn, cc, css9, rfl, h9, n6, nl, nf, hs3, ns, nown⟩
                refine hK _ _ ⟨hs3, n6⟩ (fun hS1 => ?_)
                try simp only [Act.put, List.setIfInBounds_toArray, List.set_cons_zero, List.set_cons_succ]
                repeat
                  refine wpLex_take (v := ?_) (by rfl) ?_ ?_
                  rotate_left
                  · intro w hSw
                    (try dsimp only at hSw)
                    go_simp
                    try with_reducible rfl
                  try simp only [Act.put, List.setIfInBounds_toArray, List.set_cons_zero, List.set_cons_succ]
                refine wpLex_step (fun K hK => ?_)
                go_simp
                refine hK _ _ ⟨HS.out _ (NB.alloc (Hid.out (And.left hs3)) _), ((NB.alloc (Below.refl w3.heap.size w3) _).cell (p := ⟨kz, 6, none⟩) nl).trans n6⟩ (fun hS2 => ?_)
                try simp only [Act.put, List.setIfInBounds_toArray, List.set_cons_zero, List.set_cons_succ]
                refine wpLex_nil ?_
                clear hS0 hS1 hS2
                go_wp2_with (at_builtin; refine wpList_append_own _ rfl _ _ 26 rfl w1.heap.size 53 i53 _ 2 40 Try.underlying26 hi53 hz53 hy53 hw53 rfl (by decide) _ _ css.flatten rfl (nown.alloc _) ⟨w3.heap.size, 0, none⟩ 1 1 [.string cn, .slice an nn cc] rfl rfl (cells_new _ [.string cn, .slice an nn cc] 53) (by simp [Value.oneCell']) (by unfold maxLen; omega) (by omega) (by simp; omega) ?_)
                intro v' w4 hown' hgrow _
                obtain ⟨hyz, hts⟩ := HST.out _ _ _ _ _ _ _ h9 hown' hgrow
                obtain ⟨g', cap', rfl⟩ := ownsRow_succ hown'
                have HTN := hide hts
                have r6 := hyz.cell 6
                have rl := hyz.lt
                have rf := hyz.free 6
                clear hown' hgrow hyz hts
                go_wp2_with fail
                clear HS HXS HST HB1W HKZ1 hs3
                generalize w4.setCell _ _ = w5 at HTN ⊢
                go_meet
                exact ⟨_, _, HTN⟩
              case rest =>
                obtain ⟨v', css', hc⟩ := hcut
                have HC := hide hc.out
                clear hc
                go_wp2_with fail
                go_roundg (d.boxes.length - (k + 1))
                case measure => rw [hu.out]; omega
                case rel => exact ⟨k + 1, _, _, hide rfl, by go_num, hide ⟨hlt, HC.out⟩⟩
            · have hlti : ¬ (k : Int) < (d.boxes.length : Int) := by omega
              have hke : k = d.boxes.length := by omega
              subst hke
              have HT6 := hide hh.out.2
              obtain ⟨vB, rfl⟩ : ∃ x, x = v := ⟨_, rfl⟩
              obtain ⟨cB, rfl⟩ : ∃ x, x = css := ⟨_, rfl⟩
              have HB6 := hide HT6.out.g
              have HO6 := hide (HO0.out.below HB6.out)
              have z0 := HT6.out.y.cell 0
              have z1 := HT6.out.y.cell 1
              have z2 := HT6.out.y.cell 2
              have z3 := HT6.out.y.cell 3
              have z4 := HT6.out.y.cell 4
              have z5 := HT6.out.y.cell 5
              have z6 := HT6.out.y.cell 6
              have zl := HT6.out.y.lt
              obtain ⟨a21, c21, hvP, _⟩ := own_shape HT6.out.p.own
              obtain ⟨a22, c22, hvC, _⟩ := own_shape HT6.out.c.own
              obtain ⟨a23, c23, hvB, _⟩ := own_shape HT6.out.b.own
              subst hvP hvC hvB
              have k0 := HO6.out.cell 0
              have k1 := HO6.out.cell 1
              have k2 := HO6.out.cell 2
              have k3 := HO6.out.cell 3
              have k4 := HO6.out.cell 4
              have k5 := HO6.out.cell 5
              have k6 := HO6.out.cell 6
              have kl := HO6.out.lt
              have j0 := HO6.out.free 0
              have j1 := HO6.out.free 1
              have j2 := HO6.out.free 2
              have j3 := HO6.out.free 3
              have j4 := HO6.out.free 4
              have j5 := HO6.out.free 5
              have j6 := HO6.out.free 6
              have HFN := hide (HT6.out.fin)
              have HSZ := hide (show w.heap.size ≤ w1.heap.size from HBA.out.size)
              have HKO := hide (show w.heap.size ≤ kx + 1 by have := HKX.out; omega)
              have HBF := hide (below_next HBA.out HB6.out)
              clear HT5 hh hu
              go_wp2_with fail
              clear z0 z1 z2 z3 z4 z5 z6 zl k0 k1 k2 k3 k4 k5 k6 kl j0 j1 j2 j3 j4 j5 j6 HT6
              change bodyPost Try.prog Try.f13 _ _ _ (set7 wr (kx + 1) (.string d.start) (.string d.layout) (.slice a21 cP.length c21) (.slice a22 cC.length c22) (.slice a9 d.follows.length c9) (.slice a11 d.rejects.length c11) (.slice a23 cB.length c23))
              exact ret13 rfl rfl (set7_blk _ _ _ _ _ _ _ HO6.out) ⟨_, _, _, _, _, _, _, _, _, _, rfl, hide ((set7_touch _ _ _ _ _ _ _ HO6.out HFN.out).base HSZ.out), set7_below _ _ _ _ _ _ _ HBF.out HKO.out⟩
end Go.Proofs.Ytalicfpcmcbdbaa
