/- The walk of the scanner's put. -/
import Derived.Test.YtfngkdcjifdliaaScn
set_option linter.unusedVariables false
set_option linter.unusedSimpArgs false
set_option linter.unnecessarySimpa false
set_option linter.deprecated false
namespace Go.Proofs.Ytfngkdcjifdliaa
open Go.RowKit

set_option maxHeartbeats 4000000 in
set_option maxRecDepth 100000 in
theorem put_any (B sb : Nat) (text : ByteArray) (p e : Nat) (line top : Int) (ws : List Wd) (v : Value) (kind num : Int) (t0 : ByteArray) (ba : Option Addr) (bn bc : Nat) (d : St) (w : World) (h : ScW B sb text (p : Int) line top ws v w) (hB : B ≤ w.heap.size)
    (hpe : p ≤ e) (he : e ≤ text.size) (hs : text.size ≤ 100000) (htop : 0 ≤ top ∧ top ≤ p) (hw : ws.length ≤ 100000) :
    Calls Try.prog 11 #[.pointer (some ⟨sb, 0, none⟩), .agg #[.int .i64 kind, .string t0, .slice ba bn bc, .int .u64 (d.w0 : Int), .int .u64 (d.w1 : Int), .int .u64 (d.w2 : Int), .int .u64 (d.w3 : Int), .int .i64 num, .int .i64 0, .int .i64 0, .int .i64 0], .int .i64 (e : Int)] w fun r w' => r = .returned (.tuple #[]) ∧ ∃ v', Hid (ScW B sb text (e : Int) line top (ws ++ [⟨kind, text.extract p e, ba, bn, bc, d, num, p, line, p - top + 1⟩]) v' w' ∧ Wrote (ScP B sb) w w') := by
  obtain ⟨i0, hi, hz0, hz1, hz2⟩ := info_parts info36
  have HH := hide h
  have e0 := h.b.cell 0
  have e1 := h.b.cell 1
  have e2 := h.b.cell 2
  have e3 := h.b.cell 3
  have e4 := h.b.cell 4
  have el := h.b.lt
  have hpi : (p : Int) ≤ (e : Int) := by omega
  have hei : (e : Int) ≤ (text.size : Int) := by omega
  have hsi : (text.size : Int) ≤ 100000 := by omega
  obtain ⟨ht1, ht2⟩ := htop
  have hne : sb ≠ w.heap.size := by omega
  have hne2 : w.heap.size ≠ sb := by omega
  obtain ⟨xt, hxt⟩ : ∃ xt, text.extract p e = xt := ⟨_, rfl⟩
  rw [hxt]
  clear h
  go_enter Try.func11, Try.ntmps11
  go_upto_region 1 with fail
  go_cut [] from 6 to 37 (fun wx => wx = (w.alloc (.cells #[.int .i64 kind, .string xt, .slice ba bn bc, .int .u64 (d.w0 : Int), .int .u64 (d.w1 : Int), .int .u64 (d.w2 : Int), .int .u64 (d.w3 : Int), .int .i64 num, .int .i64 (p : Int), .int .i64 line, .int .i64 ((p : Int) - top + 1)] 36)).drew)
  case first =>
    go_region
    go_wp2_with fail
    go_meet
    rfl
  case rest =>
    subst hcut
    have hb1 : Blk (w.alloc (.cells #[.int .i64 kind, .string xt, .slice ba bn bc, .int .u64 (d.w0 : Int), .int .u64 (d.w1 : Int), .int .u64 (d.w2 : Int), .int .u64 (d.w3 : Int), .int .i64 num, .int .i64 (p : Int), .int .i64 line, .int .i64 ((p : Int) - top + 1)] 36)).drew sb #[.string text, .int .i64 (p : Int), .int .i64 line, .int .i64 top, v] 41 := blk_drew (HH.out.b.alloc _)
    have hk1 : Blk (w.alloc (.cells #[.int .i64 kind, .string xt, .slice ba bn bc, .int .u64 (d.w0 : Int), .int .u64 (d.w1 : Int), .int .u64 (d.w2 : Int), .int .u64 (d.w3 : Int), .int .i64 num, .int .i64 (p : Int), .int .i64 line, .int .i64 ((p : Int) - top + 1)] 36)).drew w.heap.size #[.int .i64 kind, .string xt, .slice ba bn bc, .int .u64 (d.w0 : Int), .int .u64 (d.w1 : Int), .int .u64 (d.w2 : Int), .int .u64 (d.w3 : Int), .int .i64 num, .int .i64 (p : Int), .int .i64 line, .int .i64 ((p : Int) - top + 1)] 36 := blk_drew (Blk.new w _ _)
    have ho1 : (w.alloc (.cells #[.int .i64 kind, .string xt, .slice ba bn bc, .int .u64 (d.w0 : Int), .int .u64 (d.w1 : Int), .int .u64 (d.w2 : Int), .int .u64 (d.w3 : Int), .int .i64 num, .int .i64 (p : Int), .int .i64 line, .int .i64 ((p : Int) - top + 1)] 36)).drew.ownsRow B 36 11 v ws.length (wdsC ws) := own_below HH.out.own ((Below.refl w.heap.size w).alloc (Nat.le_refl _) _).drew
    have hw1 : Wrote (ScP B sb) w (w.alloc (.cells #[.int .i64 kind, .string xt, .slice ba bn bc, .int .u64 (d.w0 : Int), .int .u64 (d.w1 : Int), .int .u64 (d.w2 : Int), .int .u64 (d.w3 : Int), .int .i64 num, .int .i64 (p : Int), .int .i64 line, .int .i64 ((p : Int) - top + 1)] 36)).drew := (Wrote.alloc _ _ _).drew
    have hs1 : B ≤ (w.alloc (.cells #[.int .i64 kind, .string xt, .slice ba bn bc, .int .u64 (d.w0 : Int), .int .u64 (d.w1 : Int), .int .u64 (d.w2 : Int), .int .u64 (d.w3 : Int), .int .i64 num, .int .i64 (p : Int), .int .i64 line, .int .i64 ((p : Int) - top + 1)] 36)).drew.heap.size := Nat.le_trans hB hw1.size
    generalize (w.alloc (.cells #[.int .i64 kind, .string xt, .slice ba bn bc, .int .u64 (d.w0 : Int), .int .u64 (d.w1 : Int), .int .u64 (d.w2 : Int), .int .u64 (d.w3 : Int), .int .i64 num, .int .i64 (p : Int), .int .i64 line, .int .i64 ((p : Int) - top + 1)] 36)).drew = w1 at hb1 hk1 ho1 hw1 hs1 ⊢
    clear e0 e1 e2 e3 e4 el
    obtain ⟨k, hk⟩ : ∃ k, w.heap.size = k := ⟨_, rfl⟩
    have HKK := hide hk
    rw [hk] at hk1 hne hne2 ⊢
    clear hk
    have e1 := hb1.cell 1
    have e4 := hb1.cell 4
    have el := hb1.lt
    have f1 := hb1.free 1
    have f4 := hb1.free 4
    have k0 := hk1.cell 0
    have k1 := hk1.cell 1
    have k2 := hk1.cell 2
    have k3 := hk1.cell 3
    have k4 := hk1.cell 4
    have k5 := hk1.cell 5
    have k6 := hk1.cell 6
    have k7 := hk1.cell 7
    have k8 := hk1.cell 8
    have k9 := hk1.cell 9
    have k10 := hk1.cell 10
    have HB1 := hide hb1
    have HO1 := hide ho1
    have HW1 := hide hw1
    have HST := hide (show ∀ v' w4, w4.ownsRow B 36 11 v' (ws.length + 1) (wdsC ws ++ wdL (Wd.mk kind xt ba bn bc d num (p : Int) line ((p : Int) - top + 1))) → (w1.drew.alloc (.cells #[.int .i64 kind, .string xt, .slice ba bn bc, .int .u64 (d.w0 : Int), .int .u64 (d.w1 : Int), .int .u64 (d.w2 : Int), .int .u64 (d.w3 : Int), .int .i64 num, .int .i64 (p : Int), .int .i64 line, .int .i64 ((p : Int) - top + 1)] 36)).grownBy w4 v.ownBlock →
        Blk w4 sb #[.string text, .int .i64 (p : Int), .int .i64 line, .int .i64 top, v] 41 ∧ Wrote (ScP B sb) w w4 ∧ w4.ownsRow B 36 11 v' (ws ++ [(Wd.mk kind xt ba bn bc d num (p : Int) line ((p : Int) - top + 1))]).length (wdsC (ws ++ [(Wd.mk kind xt ba bn bc d num (p : Int) line ((p : Int) - top + 1))])) from fun v' w4 ho hg => by
      have hne : some sb ≠ v.ownBlock := HB1.out.own_ne HO1.out (by decide)
      refine ⟨Blk.grown (Blk.alloc (blk_drew HB1.out) _) hg hne, ?_, ?_⟩
      · refine Wrote.trans (b := w1.drew.alloc (.cells #[.int .i64 kind, .string xt, .slice ba bn bc, .int .u64 (d.w0 : Int), .int .u64 (d.w1 : Int), .int .u64 (d.w2 : Int), .int .u64 (d.w3 : Int), .int .i64 num, .int .i64 (p : Int), .int .i64 line, .int .i64 ((p : Int) - top + 1)] 36)) ((Wrote.drew HW1.out).trans (Wrote.alloc _ _ _)) (Wrote.of_grown hg (fun g hg2 => ?_))
        obtain ⟨h1, cur, h2⟩ := own_typed HO1.out hg2
        exact Or.inr ⟨cur, 36, (0, 0), (Below.heap_alloc _ _ _ (Array.getElem?_eq_some_iff.1 h2).1).trans h2, show ScP B sb g 36 from Or.inr ⟨rfl, h1⟩⟩
      · rw [wdsC_snoc, List.length_append]
        exact ho)
    clear hb1 hk1 ho1 hw1 ht1 ht2 hpi hei
    go_upto_region 2 with fail
    go_cut [] from 38 to 47 (fun wc => ∃ v', Hid (ScW B sb text (p : Int) line top (ws ++ [(Wd.mk kind xt ba bn bc d num (p : Int) line ((p : Int) - top + 1))]) v' wc ∧ Wrote (ScP B sb) w wc))
    case first =>
      go_region_law (refine step_append_own rfl (.tmp 42) (.tmp 44) 27 rfl B 36 i0 _ 11 112 Try.underlying27 hi hz0 hz1 hz2 rfl (by decide) v ws.length (wdsC ws) (by simp [Act.eval, Act.put]) (own_below HO1.out ((Below.refl _ _).drew.alloc (by simp) _)) ⟨w1.heap.size, 0, none⟩ 1 1 (wdL (Wd.mk kind xt ba bn bc d num (p : Int) line ((p : Int) - top + 1))) (by simp [Act.eval, Act.put]) rfl (cells_new _ (wdL _) 36) (by simp [wdL, Value.oneCell']) (by unfold maxLen; omega) (by omega) (by simp; omega) ?_; intro v' w4 hown' hgrow hnil hat; obtain ⟨g', cap', rfl⟩ := ownsRow_succ hown'; obtain ⟨hb4, hw4, ho4⟩ := HST.out _ _ hown' hgrow; have HB4 := hide hb4; have HW4 := hide hw4; have HO4 := hide ho4; have r1 := hb4.cell 1; have r4 := hb4.cell 4; have q1 := hb4.free 1; have q4 := hb4.free 4; have rl := hb4.lt; clear hown' hgrow hnil hat hb4 hw4 ho4)
      all_goals
        go_wp2_with fail
        go_meet
        refine ⟨.slice (some ⟨g', 0, none⟩) (ws.length + 1) cap', hide (And.intro (ScW.mk ?_ ?_) ?_)⟩
        · first | exact HB4.out.set 4 _ | exact blk_drew (HB4.out.set 4 _)
        · first | exact own_set HO4.out HB4.out (by decide) | exact own_below (own_set HO4.out HB4.out (by decide)) (Below.refl _ _).drew
        · first | exact HW4.out.trans (Wrote.set _ _ HB4.out (show ScP B sb sb 41 from Or.inl ⟨rfl, rfl⟩)) | exact Wrote.drew (HW4.out.trans (Wrote.set _ _ HB4.out (show ScP B sb sb 41 from Or.inl ⟨rfl, rfl⟩)))
    case rest =>
      obtain ⟨v', hc⟩ := hcut
      have r1 := hc.out.1.b.cell 1
      have q1 := hc.out.1.b.free 1
      have rl := hc.out.1.b.lt
      clear e1 e4 el f1 f4 k0 k1 k2 k3 k4 k5 k6 k7 k8 k9 k10
      go_wp2_with fail
      go_end0
      have hz := hc.out.1.at_ (e : Int)
      exact ⟨rfl, v', hide ⟨hz.1, hc.out.2.trans hz.2⟩⟩
end Go.Proofs.Ytfngkdcjifdliaa
