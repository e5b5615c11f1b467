/- The walk of the reference's At. -/
import Derived.Test.YtfndldfnlncabaaPut
import Derived.Test.YtfndldfnlncabaaRCopyT
import Derived.Deep.QuietTactic
import Derived.StillTailTactics
import Derived.Deep.RegionWith
import Derived.Deep.Cut
import Derived.Deep.DeepCutAuto
set_option linter.unusedVariables false
set_option linter.unusedSimpArgs false
set_option linter.unnecessarySimpa false
set_option linter.deprecated false
namespace Go.Proofs.Ytfndldfnlncabaa
open Go.RowKit

/-- A value reads as a row of numbers, with room for them. -/
def RVc (w : World) (l : List Int) (v : Value) : Prop := ∃ a c, v = .slice a l.length c ∧ l.length ≤ c ∧ RI w a l
theorem RVc.rv {w : World} {l : List Int} {v : Value} (h : RVc w l v) : RV w l v := by
  obtain ⟨a, c, e, _, hr⟩ := h
  exact ⟨a, c, e, hr⟩
theorem RVc.below {w w' : World} {l : List Int} {v : Value} (h : RVc w l v) (hb : Below w.heap.size w w') : RVc w' l v := by
  obtain ⟨a, c, e, hc, hr⟩ := h
  exact ⟨a, c, e, hc, hr.below hb⟩
theorem RI.tail {w : World} {b o : Nat} {i : Int} {p : List Int} (h : RI w (some ⟨b, o, none⟩) (i :: p)) : RI w (some ⟨b, o + 1, none⟩) p := by
  refine ⟨by have := h.len; simp at this; omega, fun x hx => h.fit x (List.mem_cons_of_mem _ hx), fun hn => ?_⟩
  obtain ⟨b', o', e, hlt, hc⟩ := h.at_ (by simp)
  injection e with e
  injection e with e1 e2 _
  subst e1 e2
  refine ⟨b, o + 1, rfl, hlt, fun k hk => ?_⟩
  have := hc (k + 1) (by simp; omega)
  rw [show o + 1 + k = o + (k + 1) by omega, this]
  simp

theorem ret26 {R : Ending → World → Prop} {a : Act} {W : World} {k : Nat} {v0 v1 v2 v3 : Value} {c : Int} (h4 : (a.tmps[4]?).getD undef = .pointer (some ⟨k, 0, none⟩)) (h5 : (a.tmps[5]?).getD undef = .int .i64 c) (hd : a.defers = []) (hb : Blk W k #[v0, v1, v2, v3] 25) (hR : R (.returned (.tuple #[.agg #[v0, v1, v2, v3], .int .i64 c])) W) : bodyPost Try.prog Try.f26 R .ret a W := by
  have f0 : W.cell? ⟨k, 0, none⟩ = some v0 := hb.cell 0
  have f1 : W.cell? ⟨k, 1, none⟩ = some v1 := hb.cell 1
  have f2 : W.cell? ⟨k, 2, none⟩ = some v2 := hb.cell 2
  have f3 : W.cell? ⟨k, 3, none⟩ = some v3 := hb.cell 3
  refine bodyPost_ret (v := .tuple #[.agg #[v0, v1, v2, v3], .int .i64 c]) ?_ hd hR
  simp [results, Try.results26, h4, h5, go_sem, f0, f1, f2, f3]
theorem two_blk25 (w : World) (c d : Array Value) : Blk ((w.alloc (.cells c 25)).alloc (.cells d 25)) w.heap.size c 25 ∧ Blk ((w.alloc (.cells c 25)).alloc (.cells d 25)) (w.heap.size + 1) d 25 ∧ Below w.heap.size w ((w.alloc (.cells c 25)).alloc (.cells d 25)) := by
  have h1 := Blk.new (w.alloc (.cells c 25)) d 25
  rw [World.size_alloc] at h1
  exact ⟨(Blk.new w c 25).alloc _, h1, ((Below.refl _ w).alloc (Nat.le_refl _) _).alloc (by simp) _⟩
theorem lay_below {w : World} {g : Nat} (v0 v1 v2 v3 : Value) {B : Nat} {a : World} (hB : B ≤ g) (h : Below B a w) : Below B a (lay4 w g v0 v1 v2 v3) := by
  unfold lay4
  exact (((h.setCell (p := ⟨_, 0, none⟩) hB _).setCell (p := ⟨_, 1, none⟩) hB _).setCell (p := ⟨_, 2, none⟩) hB _).setCell (p := ⟨_, 3, none⟩) hB _
theorem lay_tree {w : World} {g : Nat} (v0 v1 v2 v3 : Value) {T : Tm} {P : Nat → Prop} {v : Value} (hT : Tree w T P v) (hg : ¬ P g) : Tree (lay4 w g v0 v1 v2 v3) T P v := by
  refine Tree.keep ⟨by unfold lay4; simp [size_setCell], fun k hk _ => ?_⟩ hT
  have hne : k ≠ g := fun e => hg (e ▸ hk)
  unfold lay4
  rw [Below.heap_setCell _ _ _ _ hne, Below.heap_setCell _ _ _ _ hne, Below.heap_setCell _ _ _ _ hne, Below.heap_setCell _ _ _ _ hne]

theorem at_lift {w wc w5 : World} {r : Option Tm} {v0 v1 v2 v3 : Value} {c : Int} (h : AtP wc.drew r (.returned (.tuple #[.agg #[v0, v1, v2, v3], .int .i64 c])) w5) (hw : Below w.heap.size w wc) (hl : w.heap.size + 1 < wc.heap.size) :
    AtP w r (.returned (.tuple #[.agg #[v0, v1, v2, v3], .int .i64 c])) (lay4 w5 (w.heap.size + 1) v0 v1 v2 v3) := by
  have hb5 : Below wc.heap.size wc w5 := ⟨h.2.os, h.2.tape, h.2.output, h.2.size, h.2.block⟩
  refine ⟨?_, lay_below _ _ _ _ (Nat.le_succ _) (hw.trans (hb5.mono hw.size))⟩
  have h6 := h.1
  cases r with
  | none => exact h6
  | some V =>
    obtain ⟨v', e, htr⟩ := h6
    injection e with e
    simp only [Value.tuple.injEq, Array.mk.injEq, List.cons.injEq, and_true] at e
    obtain ⟨rfl, e2⟩ := e
    obtain rfl : c = 0 := by injection e2
    refine ⟨_, rfl, Tree.weak (fun k hk => ?_) (lay_tree _ _ _ _ htr (fun hk => ?_))⟩
    · have hk' : wc.heap.size ≤ k := hk
      omega
    · have hk' : wc.heap.size ≤ w.heap.size + 1 := hk
      omega

set_option maxHeartbeats 2000000 in
set_option maxRecDepth 100000 in
theorem rat_any : ∀ (l : List Int) (T : Tm) (v u : Value) (w : World), cnt T ≤ 1000000 → RT w T v → RVc w l u → Calls Try.prog 26 #[v, u] w (AtP w (atP T l)) := by
  intro l
  induction l with
  | nil =>
    intro T v u w hc hT hL
    obtain ⟨a1, c1, a2, c2, rfl, _, _, _, _⟩ := hT.open
    obtain ⟨al, cl, rfl, _, _⟩ := hL
    obtain ⟨hb0, hb1, hB⟩ := two_blk25 w #[.int .i64 T.kind, .string T.cons, .slice a1 T.text.length c1, .slice a2 T.kids.length c2] #[.int .i64 0, .string emptyB, .slice none 0 0, .slice none 0 0]
    have HC := hide (copyT_any T hc _ _ (RT.below hB hT))
    have HB := hide hB
    have HB1 := hide hb1
    rw [atP]
    clear hT hb0 hb1 hB
    go_enter Try.func26, Try.ntmps26
    go_wp2_with fail
    refine HC.out.mono ?_
    rintro e w5 ⟨⟨v', rfl, htree⟩, hb5⟩
    obtain ⟨p1, m1, p2, m2, rfl, _, _, _, _⟩ := htree.rt.open
    have hcl := HB1.out.below hb5
    have d0 := hcl.cell 0
    have d1 := hcl.cell 1
    have d2 := hcl.cell 2
    have d3 := hcl.cell 3
    have z0 := hcl.free 0
    have z1 := hcl.free 1
    have z2 := hcl.free 2
    have z3 := hcl.free 3
    have dl := hcl.lt
    have hsz : w.heap.size + 2 ≤ ((w.alloc (.cells #[.int .i64 T.kind, .string T.cons, .slice a1 T.text.length c1, .slice a2 T.kids.length c2] 25)).alloc (.cells #[.int .i64 0, .string emptyB, .slice none 0 0, .slice none 0 0] 25)).heap.size := by simp
    have HK := hide (Blk.lay (v0 := .int .i64 T.kind) (v1 := .string T.cons) (v2 := .slice p1 T.text.length m1) (v3 := .slice p2 T.kids.length m2) hcl)
    have HP := hide (show AtP w (some T) (.returned (.tuple #[.agg #[.int .i64 T.kind, .string T.cons, .slice p1 T.text.length m1, .slice p2 T.kids.length m2], .int .i64 0])) (lay4 w5 (w.heap.size + 1) (.int .i64 T.kind) (.string T.cons) (.slice p1 T.text.length m1) (.slice p2 T.kids.length m2)) from
      ⟨⟨_, rfl, Tree.weak (fun k hk => by omega) (lay_tree _ _ _ _ htree (by omega))⟩, lay_below _ _ _ _ (Nat.le_succ _) (HB.out.trans (hb5.mono HB.out.size))⟩)
    clear hcl htree hb5 HC
    go_wp2_with fail
    exact ret26 rfl rfl rfl HK.out HP.out
  | cons i p ih =>
    intro T v u w hc hT hL
    obtain ⟨a1, c1, a2, c2, rfl, _, _, _, hks⟩ := hT.open
    obtain ⟨al, cl, rfl, hcl, hRI⟩ := hL
    obtain ⟨b, o, rfl, hbl, hcells⟩ := hRI.at_ (by simp)
    have hc0 := hcells 0 (by simp)
    rw [List.getElem_cons_zero, Nat.add_zero] at hc0
    obtain ⟨hb0, hb1, hB⟩ := two_blk25 w #[.int .i64 T.kind, .string T.cons, .slice a1 T.text.length c1, .slice a2 T.kids.length c2] #[.int .i64 0, .string emptyB, .slice none 0 0, .slice none 0 0]
    obtain ⟨n, hn⟩ : ∃ n, (i :: p).length = n := ⟨_, rfl⟩
    have hn2 : n = p.length + 1 := by rw [← hn]; rfl
    have hlen := hRI.len
    rw [hn] at hcl hlen ⊢
    have hc1 := (hB.cell (p := ⟨b, o, none⟩) hbl).trans hc0
    have hbl1 := Nat.lt_of_lt_of_le hbl hB.size
    have hn0 : ((n : Int) == 0) = false := by rw [beq_eq_false_iff_ne]; omega
    have HB := hide hB
    have HB1 := hide hb1
    have HN2 := hide hn2
    have hlen2 : n ≤ 17592186043904 := hlen
    have hnp : (0 : Int) < (n : Int) := by omega
    clear hn2 hn
    have HAT := hide (atP_cons T i p)
    have HKZ := hide (fun q => Blk.lay (w := World.drewN ((w.alloc (.cells #[.int .i64 T.kind, .string T.cons, .slice a1 T.text.length c1, .slice a2 T.kids.length c2] 25)).alloc (.cells #[.int .i64 0, .string emptyB, .slice none 0 0, .slice none 0 0] 25)) q) (v0 := .int .i64 0) (v1 := .string emptyB) (v2 := .slice none 0 0) (v3 := .slice none 0 0) (show Blk (World.drewN ((w.alloc (.cells #[.int .i64 T.kind, .string T.cons, .slice a1 T.text.length c1, .slice a2 T.kids.length c2] 25)).alloc (.cells #[.int .i64 0, .string emptyB, .slice none 0 0, .slice none 0 0] 25)) q) (w.heap.size + 1) _ 25 from HB1.out))
    have HBZ := hide (fun q => lay_below (w := World.drewN ((w.alloc (.cells #[.int .i64 T.kind, .string T.cons, .slice a1 T.text.length c1, .slice a2 T.kids.length c2] 25)).alloc (.cells #[.int .i64 0, .string emptyB, .slice none 0 0, .slice none 0 0] 25)) q) (g := w.heap.size + 1) (.int .i64 0) (.string emptyB) (.slice none 0 0) (.slice none 0 0) (Nat.le_succ _) (show Below w.heap.size w (World.drewN ((w.alloc (.cells #[.int .i64 T.kind, .string T.cons, .slice a1 T.text.length c1, .slice a2 T.kids.length c2] 25)).alloc (.cells #[.int .i64 0, .string emptyB, .slice none 0 0, .slice none 0 0] 25)) q) from ⟨HB.out.os, HB.out.tape, HB.out.output, HB.out.size, HB.out.block⟩))
    by_cases hneg : i < 0
    · have HE := hide (show atP T (i :: p) = none by rw [HAT.out]; unfold kidAt; rw [if_neg (by omega)])
      go_enter Try.func26, Try.ntmps26
      go_upto_region 3 with fail
      go_quiet (fail)
      go_wp2_with fail
      refine ret26 rfl rfl rfl (HKZ.out _) ⟨?_, HBZ.out _⟩
      rw [HE.out]
    · by_cases hge : (T.kids.length : Int) ≤ i
      · have HE := hide (show atP T (i :: p) = none by rw [HAT.out]; unfold kidAt; rw [if_pos (by omega), List.getElem?_eq_none (by omega)])
        go_enter Try.func26, Try.ntmps26
        go_upto_region 3 with fail
        go_quiet (fail)
        go_wp2_with fail
        refine ret26 rfl rfl rfl (HKZ.out _) ⟨?_, HBZ.out _⟩
        rw [HE.out]
      · obtain ⟨j, rfl⟩ : ∃ j : Nat, i = (j : Int) := ⟨i.toNat, by omega⟩
        have hj : j < T.kids.length := by omega
        have hji : (j : Int) < (T.kids.length : Int) := by omega
        have HE := hide (show atP T ((j : Int) :: p) = atP T.kids[j] p by rw [HAT.out, kidAt_nat _ j hj])
        rw [HE.out]
        have hcT : cnt T.kids[j] ≤ 1000000 := by
          have h1 := cntL_mem (List.getElem_mem hj)
          have h3 : cnt T = 1 + cntL T.kids := by cases T; rw [cnt]; rfl
          omega
        have hnsub : n - 1 = p.length := by have := HN2.out; omega
        have hn1 : (1 : Int) ≤ (n : Int) := by omega
        have hncl : (n : Int) ≤ (cl : Int) := by omega
        have HKS := hide hks
        have HRI := hide hRI
        have HB0 := hide hb0
        clear HAT HE hc1 hb0 hb1 hB
        go_enter Try.func26, Try.ntmps26
        go_upto_region 3 with fail
        go_cut [23] (fun v23 wc => v23 = .bool false ∧ Hid (Below w.heap.size w wc ∧ Blk wc w.heap.size #[.int .i64 T.kind, .string T.cons, .slice a1 T.text.length c1, .slice a2 T.kids.length c2] 25 ∧ Blk wc (w.heap.size + 1) #[.int .i64 0, .string emptyB, .slice none 0 0, .slice none 0 0] 25))
        case first =>
          go_quiet (fail)
          go_wp2_with fail
          go_meet
          exact ⟨rfl, ⟨HB.out.os, HB.out.tape, HB.out.output, HB.out.size, HB.out.block⟩, HB0.out, HB1.out⟩
        case rest =>
          obtain ⟨rfl, hcut⟩ := hcut
          have hBw := hcut.out.1
          have h0 := hcut.out.2.1
          have h1 := hcut.out.2.2
          obtain ⟨b2, o2, p1, q1, p2, q2, rfl, hbl3, e0, e1, e2, e3, hx⟩ := HKS.out.get j hj
          have e0' := (hBw.cell (p := ⟨b2, o2 + j * 4, none⟩) hbl3).trans e0
          have e1' := (hBw.cell (p := ⟨b2, o2 + j * 4 + 1, none⟩) hbl3).trans e1
          have e2' := (hBw.cell (p := ⟨b2, o2 + j * 4 + 2, none⟩) hbl3).trans e2
          have e3' := (hBw.cell (p := ⟨b2, o2 + j * 4 + 3, none⟩) hbl3).trans e3
          have hbl4 := Nat.lt_of_lt_of_le hbl3 hBw.size
          have hcp := (hBw.cell (p := ⟨b, o, none⟩) hbl).trans hc0
          have hbl5 := Nat.lt_of_lt_of_le hbl hBw.size
          have t3 := h0.cell 3
          have tl := h0.lt
          have hBd : Below w.heap.size w wc.drew := Below.drew hBw
          obtain ⟨oo, oc, hor, hoc, hoo⟩ : ∃ oo oc, ((cl = 1 ∧ oo = o ∧ oc = 0) ∨ (¬ cl = 1 ∧ oo = o + 1 ∧ oc = cl - 1)) ∧ p.length ≤ oc ∧ RI w (some ⟨b, oo, none⟩) p := by
            by_cases h9 : cl = 1
            · have hp0 : p = [] := List.eq_nil_of_length_eq_zero (by have := HN2.out; omega)
              exact ⟨o, 0, Or.inl ⟨h9, rfl, rfl⟩, by rw [hp0]; simp, by subst hp0; exact ⟨by simp, (fun x hx => by cases hx), fun hn => absurd rfl hn⟩⟩
            · exact ⟨o + 1, cl - 1, Or.inr ⟨h9, rfl, rfl⟩, by have := HN2.out; omega, HRI.out.tail⟩
          have HX := hide (show Calls Try.prog 26 #[.agg #[.int .i64 T.kids[j].kind, .string T.kids[j].cons, .slice p1 T.kids[j].text.length q1, .slice p2 T.kids[j].kids.length q2], .slice (some ⟨b, oo, none⟩) p.length oc] wc.drew fun e w5 =>
              ∃ (k0 : Int) (k1 : ByteArray) (s1 : Option Addr) (n1 m1 : Nat) (s2 : Option Addr) (n2 m2 : Nat) (c : Int), e = .returned (.tuple #[.agg #[.int .i64 k0, .string k1, .slice s1 n1 m1, .slice s2 n2 m2], .int .i64 c]) ∧
                Hid (AtP wc.drew (atP T.kids[j] p) (.returned (.tuple #[.agg #[.int .i64 k0, .string k1, .slice s1 n1 m1, .slice s2 n2 m2], .int .i64 c])) w5) ∧ Hid (Blk w5 (w.heap.size + 1) #[.int .i64 0, .string emptyB, .slice none 0 0, .slice none 0 0] 25) ∧
                (w5.cell? ⟨w.heap.size + 1, 0, none⟩ = some (.int .i64 0) ∧ w5.cell? ⟨w.heap.size + 1, 1, none⟩ = some (.string emptyB) ∧ w5.cell? ⟨w.heap.size + 1, 2, none⟩ = some (.slice none 0 0) ∧ w5.cell? ⟨w.heap.size + 1, 3, none⟩ = some (.slice none 0 0)) ∧
                (w5.frozen? ⟨w.heap.size + 1, 0, none⟩ = false ∧ w5.frozen? ⟨w.heap.size + 1, 1, none⟩ = false ∧ w5.frozen? ⟨w.heap.size + 1, 2, none⟩ = false ∧ w5.frozen? ⟨w.heap.size + 1, 3, none⟩ = false) ∧ w.heap.size + 1 < w5.heap.size by
            refine (ih T.kids[j] _ (.slice (some ⟨b, oo, none⟩) p.length oc) wc.drew hcT (RT.below hBd hx) ⟨_, _, rfl, hoc, hoo.below hBd⟩).mono ?_
            rintro e w5 h5
            have hb5 : Below wc.heap.size wc w5 := ⟨h5.2.os, h5.2.tape, h5.2.output, h5.2.size, h5.2.block⟩
            have hk := h1.below hb5
            have h6 := h5.1
            cases hat : atP T.kids[j] p with
            | none =>
              rw [hat] at h5 h6
              obtain rfl := h6
              exact ⟨0, emptyB, none, 0, 0, none, 0, 0, 4, rfl, h5, hk, ⟨hk.cell 0, hk.cell 1, hk.cell 2, hk.cell 3⟩, ⟨hk.free 0, hk.free 1, hk.free 2, hk.free 3⟩, hk.lt⟩
            | some V =>
              rw [hat] at h5 h6
              obtain ⟨v', rfl, htr⟩ := h6
              obtain ⟨s1, m1, s2, m2, rfl, _, _, _, _⟩ := htr.rt.open
              exact ⟨_, _, s1, _, m1, s2, _, m2, 0, rfl, h5, hk, ⟨hk.cell 0, hk.cell 1, hk.cell 2, hk.cell 3⟩, ⟨hk.free 0, hk.free 1, hk.free 2, hk.free 3⟩, hk.lt⟩)
          have HBW := hide hBw
          have h1l := h1.lt
          have hnp2 : 0 < n := by omega
          have hnp3 : ¬ n = 0 := by omega
          have hnp4 : ¬ (n : Int) ≤ 0 := by omega
          have hn12 : 1 ≤ n := hnp2
          clear hx e0 e1 e2 e3 hBd hcut h0 h1 hBw hcells hc0
          rcases hor with ⟨h9, rfl, rfl⟩ | ⟨h9, rfl, rfl⟩
          all_goals
            go_wp2_with fail
            go_region_with (go_at_call 26; refine HX.out.mono ?_; rintro e w5 ⟨k0, k1, s1, n1, m1, s2, n2, m2, c, rfl, HAP, HBK, ⟨d0, d1, d2, d3⟩, ⟨z0, z1, z2, z3⟩, dl⟩)
            all_goals
              have HF := hide (at_lift HAP.out HBW.out h1l)
              have HK := hide (Blk.lay (v0 := .int .i64 k0) (v1 := .string k1) (v2 := .slice s1 n1 m1) (v3 := .slice s2 n2 m2) HBK.out)
              go_wp2_with fail
              exact ret26 rfl rfl rfl HK.out HF.out
end Go.Proofs.Ytfndldfnlncabaa
