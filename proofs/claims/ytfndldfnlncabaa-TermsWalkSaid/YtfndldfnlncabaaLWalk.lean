/- The law TermsWalk, walked. -/
import Derived.Test.YtfndldfnlncabaaWalk
import Derived.Test.YtfndldfnlncabaaAlive
import Derived.Test.YtfndldfnlncabaaParts
import Derived.Test.YtfndldfnlncabaaRSame
import Derived.Test.YtfndldfnlncabaaLSame
import Derived.Deep.RegionHeld3
import Derived.Deep.CutRange
set_option linter.unusedVariables false
set_option linter.unusedSimpArgs false
set_option linter.unnecessarySimpa false
set_option linter.deprecated false
namespace Go.Proofs.Ytfndldfnlncabaa
open Go.RowKit Go.Shelf
attribute [local go_sem] Oper.semAt_some

theorem ret8 {R : Ending → World → Prop} {a : Act} {W : World} {k : Nat} {v : Value} {n : Nat} (h4 : (a.tmps[4]?).getD undef = .pointer (some ⟨k, 0, none⟩)) (hd : a.defers = []) (hb : Blk W k #[v] 4) (hR : R (.returned v) W) : bodyPostM Fence.wide n Try.prog Try.f8 R .ret a W := by
  have f0 : W.cell? ⟨k, 0, none⟩ = some v := hb.cell 0
  show LeavesInM Fence.wide n Try.prog Try.f8 a.tmps R a.defers .returning W
  rw [hd]
  refine ⟨v, ?_, hR⟩
  simp [results, Try.results8, h4, go_sem, f0]
theorem ret8c {R : Ending → World → Prop} {a : Act} {W : World} {k D : Nat} {v : Value} {n : Nat} (h4 : (a.tmps[4]?).getD undef = .pointer (some ⟨k, 0, none⟩)) (hd : a.defers = [{ target := .collected D, args := #[] }]) (hK : W.heap[D]? = some (.deferred (some []))) (hb : Blk W k #[v] 4)
    (hR : R (.returned v) (W.putObj D (.deferred none))) : bodyPostM Fence.wide n Try.prog Try.f8 R .ret a W := by
  have hb2 : Blk (W.putObj D (.deferred none)) k #[v] 4 := (Turn.putObj (B := 0) (.deferred none) (Nat.zero_le _) hK rfl).cells _ _ _ _ hb
  have f0 : (W.putObj D (.deferred none)).cell? ⟨k, 0, none⟩ = some v := hb2.cell 0
  show LeavesInM Fence.wide n Try.prog Try.f8 a.tmps R a.defers .returning W
  rw [hd]
  refine ⟨by simp, .inl ⟨_, _, rfl, run_takeDeferred hK, ?_⟩⟩
  refine ⟨v, ?_, hR⟩
  simp [results, Try.results8, h4, go_sem, f0]

theorem RTo.step {ok : Nat → Prop} {w W : World} {T : Tm} {v : Value} (h : RTo ok w T v) (hb : Below w.heap.size w W) : RTo ok W T v :=
  RTo.keep (keep_below hb) h
theorem one_set {w : World} {k : Nat} {v u : Value} {t : TypeId} (h : Blk w k #[v] t) : Blk (w.setCell ⟨k, 0, none⟩ u) k #[u] t := by
  unfold Blk at h ⊢
  simp only [World.setCell, Array.getElem?_modify, h]
  simp
theorem one_other {w : World} {k b : Nat} {c : Array Value} {u : Value} {t : TypeId} (h : Blk w k c t) (hb : b ≠ k) : Blk (w.setCell ⟨b, 0, none⟩ u) k c t :=
  (Below.heap_setCell _ _ _ _ (by show k ≠ b; omega)).trans h

/-- What stands behind the bound's own statement. -/
structure StW (w w2 : World) (A : Array Value) (n M g2 cap2 : Nat) (wc : World) : Prop where
  below : Below w.heap.size w wc
  kt : Blk wc w.heap.size A 25
  km : Blk wc (w.heap.size + 1) #[.int .i64 (M : Int)] 3
  kr : Blk wc (w.heap.size + 1 + 1) #[.bool false] 4
  kw : Blk wc w2.heap.size #[.slice (some ⟨g2, 0, none⟩) n cap2] 23
  keep : Keep (fun k => k ≠ w.heap.size + 1) w2 wc
  lo : 1 ≤ M
  hi : M ≤ n

/-- What the test of the bound says. -/
structure BR (b : Bool) (m : Int) (n : Nat) : Prop where
  yes : b = true → (m < 1 ∨ (n : Int) < m)
  no : b = false → ¬ (m < 1 ∨ (n : Int) < m)

/-- What holds between two rounds. -/
structure IW (w wL : World) (All : List Tm) (b6 M : Nat) (pr : List (Tm × Value)) (W : World) : Prop where
  below : Below w.heap.size w W
  kn : Blk W b6 #[.int .i64 (pr.length : Int)] 3
  keep : Keep (fun k => k ≠ b6) wL W
  lt : pr.length < M
theorem IW.turn {w wL : World} {All : List Tm} {b6 M : Nat} {pr : List (Tm × Value)} {A B : World} (h : IW w wL All b6 M pr A) (ht : Turn wL.heap.size A B) (hw : w.heap.size ≤ wL.heap.size) : IW w wL All b6 M pr B :=
  ⟨ht.below h.below hw, ht.cells _ _ _ _ h.kn, ⟨Nat.le_trans h.keep.size ht.size, fun k hk hl => (ht.low k hl).trans (h.keep.block k hk hl)⟩, h.lt⟩
structure IXW (w wL : World) (b6 M : Nat) (c : Code) (W : World) : Prop where
  code : c = .exit 0
  below : Below w.heap.size w W
  kn : Blk W b6 #[.int .i64 (M : Int)] 3
  keep : Keep (fun k => k ≠ b6) wL W
theorem IXW.turn {w wL : World} {b6 M : Nat} {c : Code} {A B : World} (h : IXW w wL b6 M c A) (ht : Turn wL.heap.size A B) (hw : w.heap.size ≤ wL.heap.size) : IXW w wL b6 M c B :=
  ⟨h.code, ht.below h.below hw, ht.cells _ _ _ _ h.kn, ⟨Nat.le_trans h.keep.size ht.size, fun k hk hl => (ht.low k hl).trans (h.keep.block k hk hl)⟩⟩
/-- The loop's variable. -/
structure BW (All : List Tm) (n0 : Nat) (pr : List (Tm × Value)) (x : Tm × Value) (b : Nat) (W : World) : Prop where
  order : (pr ++ [x]).map Prod.fst <+: All
  ex : ∃ a1 c1 a2 c2, x.2 = .agg #[.int .i64 x.1.kind, .string x.1.cons, .slice a1 x.1.text.length c1, .slice a2 x.1.kids.length c2] ∧ Blk W b #[.int .i64 x.1.kind, .string x.1.cons, .slice a1 x.1.text.length c1, .slice a2 x.1.kids.length c2] 25
  rt : RT W x.1 x.2
  ge : n0 ≤ b
theorem BW.turn {All : List Tm} {n0 : Nat} {pr : List (Tm × Value)} {x : Tm × Value} {b : Nat} {A B : World} {m : Nat} (h : BW All n0 pr x b A) (ht : Turn m A B) : BW All n0 pr x b B :=
  ⟨h.order, by obtain ⟨a1, c1, a2, c2, e, hb⟩ := h.ex; exact ⟨a1, c1, a2, c2, e, ht.cells _ _ _ _ hb⟩, RTo.kc (ht.kc (Wr := fun _ => False)) (fun _ _ h => h) h.rt, h.ge⟩

set_option maxHeartbeats 8000000 in
set_option maxRecDepth 100000 in
theorem law_walk (T : Tm) (m : Int) (v : Value) (w : World) (hT : RT w T v) (hm : -9223372036854775808 ≤ m ∧ m ≤ 9223372036854775807) : Calls Try.prog 8 #[v, .int .i64 m] w fun e w' => e = .returned (.bool true) ∧ Below w.heap.size w w' := by
  obtain ⟨a1, c1, a2, c2, rfl, _, _, _, _⟩ := hT.open
  have HA := hide (fun W => alive_any W)
  have HT := hide (fun W (h : Below w.heap.size w W) => RTo.step (RTo.low hT) h)
  have HV1 := hide (fun W h => heavy_any T (.agg #[.int .i64 T.kind, .string T.cons, .slice a1 T.text.length c1, .slice a2 T.kids.length c2]) W h)
  have hW : Below w.heap.size w (((w.alloc (.cells #[.int .i64 T.kind, .string T.cons, .slice a1 T.text.length c1, .slice a2 T.kids.length c2] 25)).alloc (.cells #[.int .i64 m] 3)).alloc (.cells #[.bool false] 4)) := (((Below.refl _ w).alloc (Nat.le_refl _) _).alloc (by simp) _).alloc (by simp; omega) _
  have k0 : Blk (((w.alloc (.cells #[.int .i64 T.kind, .string T.cons, .slice a1 T.text.length c1, .slice a2 T.kids.length c2] 25)).alloc (.cells #[.int .i64 m] 3)).alloc (.cells #[.bool false] 4)) w.heap.size _ 25 := ((Blk.new w _ _).alloc _).alloc _
  have k1 : Blk (((w.alloc (.cells #[.int .i64 T.kind, .string T.cons, .slice a1 T.text.length c1, .slice a2 T.kids.length c2] 25)).alloc (.cells #[.int .i64 m] 3)).alloc (.cells #[.bool false] 4)) (w.heap.size + 1) #[.int .i64 m] 3 := by
    have := (Blk.new (w.alloc (.cells #[.int .i64 T.kind, .string T.cons, .slice a1 T.text.length c1, .slice a2 T.kids.length c2] 25)) #[.int .i64 m] 3).alloc (.cells #[.bool false] 4)
    rw [World.size_alloc] at this
    exact this
  have k2 : Blk (((w.alloc (.cells #[.int .i64 T.kind, .string T.cons, .slice a1 T.text.length c1, .slice a2 T.kids.length c2] 25)).alloc (.cells #[.int .i64 m] 3)).alloc (.cells #[.bool false] 4)) (w.heap.size + 1 + 1) #[.bool false] 4 := by
    have := Blk.new ((w.alloc (.cells #[.int .i64 T.kind, .string T.cons, .slice a1 T.text.length c1, .slice a2 T.kids.length c2] 25)).alloc (.cells #[.int .i64 m] 3)) #[.bool false] 4
    rw [World.size_alloc, World.size_alloc] at this
    exact this
  have HB := hide hW
  have KT := hide k0
  have KM := hide k1
  have KR := hide k2
  clear hT hW k0 k1 k2
  refine (callsIn_wide (n := 10)).1 ?_
  refine callsIn_of_wp_marks Try.func8 rfl trivial ?_ rfl
  simp only [Try.ntmps8, List.size_toArray, List.length_cons, List.length_nil, Nat.reduceAdd, Nat.reduceSub, Array.replicate_succ, Array.replicate_zero, List.push_toArray, List.append_toArray, List.nil_append, List.cons_append]
  refine wpIn_wide.2 ?_
  cases h1 : heavyB T with
  | true =>
    rw [h1] at HV1
    go_wp2_with fail
    refine (HV1.out _ (HT.out _ HB.out).to).mono ?_
    rintro e w1 ⟨rfl, hb⟩
    replace HB := hide (below_next HB.out hb)
    replace KR := hide (KR.out.below hb)
    clear hb KT KM
    go_wp2_with fail
    refine (HA.out _).mono ?_
    rintro e w2 ⟨rfl, hb⟩
    replace HB := hide (below_next HB.out hb)
    replace KR := hide (KR.out.below hb)
    clear hb
    have e0 := KR.out.cell 0
    have ef := KR.out.free 0
    have el := KR.out.lt
    go_wp2_with fail
    exact ret8 rfl rfl (one_set KR.out) ⟨rfl, HB.out.setCell (by simp; omega) _⟩
  | false =>
    rw [h1] at HV1
    have hc1000 := cnt_of_heavy h1
    have HC := hide hc1000
    clear h1 hc1000
    go_wp2_with fail
    refine (HV1.out _ (HT.out _ HB.out).to).mono ?_
    rintro e w1 ⟨rfl, hb⟩
    replace HB := hide (below_next HB.out hb)
    replace KT := hide (KT.out.below hb)
    replace KM := hide (KM.out.below hb)
    replace KR := hide (KR.out.below hb)
    have hrl1 := KR.out.lt
    clear hb HV1
    have e0 := KT.out.cell 0
    have e1 := KT.out.cell 1
    have e2 := KT.out.cell 2
    have e3 := KT.out.cell 3
    have el := KT.out.lt
    go_wp2_with fail
    refine (rwalk_any T (by have := HC.out; omega) (fun k => k < w.heap.size) _ _ (fun k hk => Nat.lt_of_lt_of_le hk HB.out.size) (HT.out _ HB.out)).mono ?_
    rintro e w2 ⟨v2, xs, rfl, hp⟩
    obtain ⟨g2, cap2, rfl, hg2, hg2l, hcap2, hnews, hxl⟩ := own_at hp.out.1 (by rw [pre_eq]; simp)
    have hlen : (pre T).length ≤ 1000 := by rw [pre_len]; exact HC.out
    have hlen1 : 1 ≤ (pre T).length := by rw [pre_eq]; simp
    have hb := hp.out.2.2
    have hRC := hp.out.2.1
    obtain ⟨n, hn⟩ : ∃ n, (pre T).length = n := ⟨_, rfl⟩
    have HNN := hide hn
    rw [hn] at hcap2 hlen hlen1 hxl ⊢
    replace HB := hide (below_next HB.out hb)
    replace KT := hide (KT.out.below hb)
    replace KM := hide (KM.out.below hb)
    replace KR := hide (KR.out.below hb)
    have HRC := hide hRC
    have HNW := hide hnews
    have HXL := hide hxl
    clear hb hp e0 e1 e2 e3 el hnews hxl hn hRC
    have m0 := KM.out.cell 0
    have mf := KM.out.free 0
    have ml := KM.out.lt
    have hkw := Blk.new w2 #[.slice (some ⟨g2, 0, none⟩) n cap2] 23
    have hb3 := (Below.refl w2.heap.size w2).alloc (Nat.le_refl _) (.cells #[.slice (some ⟨g2, 0, none⟩) n cap2] 23)
    have hrl := KR.out.lt
    have HN0 := hide (show ∀ M : Nat, 1 ≤ M → M ≤ n → (M : Int) = m → StW w w2 #[.int .i64 T.kind, .string T.cons, .slice a1 T.text.length c1, .slice a2 T.kids.length c2] n M g2 cap2 (w2.alloc (.cells #[.slice (some ⟨g2, 0, none⟩) n cap2] 23)) from
      fun M h1 h2 h3 => ⟨below_next HB.out hb3, KT.out.below hb3, by rw [h3]; exact KM.out.below hb3, KR.out.below hb3, hkw, (Keep.refl _ _).allocS, h1, h2⟩)
    have hkw2 := Blk.new (w2.setCell ⟨w.heap.size + 1, 0, none⟩ (.int .i64 (n : Int))) #[.slice (some ⟨g2, 0, none⟩) n cap2] 23
    rw [size_setCell] at hkw2
    have HN1 := hide (show StW w w2 #[.int .i64 T.kind, .string T.cons, .slice a1 T.text.length c1, .slice a2 T.kids.length c2] n n g2 cap2 ((w2.setCell ⟨w.heap.size + 1, 0, none⟩ (.int .i64 (n : Int))).alloc (.cells #[.slice (some ⟨g2, 0, none⟩) n cap2] 23)) from
      ⟨(HB.out.setCell (by simp) _).alloc (by rw [size_setCell]; exact HB.out.size) _, (one_other KT.out (by omega)).alloc _, (one_set KM.out).alloc _, (one_other KR.out (by omega)).alloc _, hkw2, ((Keep.refl _ _).setS (by simp)).allocS, hlen1, Nat.le_refl _⟩)
    clear hkw2
    clear hkw hb3
    go_upto_region 4 with fail
    go_cut [23] from 16 to 23 (fun v23 wc => ∃ b : Bool, v23 = .bool b ∧ Hid (BR b m n) ∧ wc = w2.alloc (.cells #[.slice (some ⟨g2, 0, none⟩) n cap2] 23))
    case first =>
      by_cases hm1 : m < 1
      · go_wp2_with fail
        go_meet
        exact ⟨_, rfl, ⟨fun _ => .inl hm1, (fun h => by cases h)⟩, rfl⟩
      · by_cases hm2 : (n : Int) < m
        · go_wp2_with fail
          go_meet
          exact ⟨_, rfl, ⟨fun _ => .inr hm2, (fun h => by cases h)⟩, rfl⟩
        · go_wp2_with fail
          go_meet
          exact ⟨_, rfl, ⟨(fun h => by cases h), fun _ h => by omega⟩, rfl⟩
    case rest =>
      obtain ⟨b, rfl, hbb, rfl⟩ := hcut
      go_upto_if 23 with fail
      go_cut [25] from 24 to 25 (fun _ wc => ∃ M : Nat, Hid (StW w w2 #[.int .i64 T.kind, .string T.cons, .slice a1 T.text.length c1, .slice a2 T.kids.length c2] n M g2 cap2 wc))
      case first =>
        cases b with
        | true =>
          go_wp2_with fail
          go_meet
          exact ⟨n, HN1.out⟩
        | false =>
          have hne := hbb.out.no rfl
          have HMM := hide (HN0.out m.toNat (by omega) (by omega) (by omega))
          clear hne
          go_wp2_with fail
          go_meet
          exact ⟨_, HMM.out⟩
      case rest =>
        obtain ⟨M, hcut⟩ := hcut
        have e0 := hcut.out.kt.cell 0
        have e1 := hcut.out.kt.cell 1
        have e2 := hcut.out.kt.cell 2
        have e3 := hcut.out.kt.cell 3
        have el := hcut.out.kt.lt
        clear m0 mf ml KT KM KR HB HN0 HN1 hbb
        go_wp2_with fail
        have hnf : ∀ (x : Addr) (W : World), (binOp .eql 44 (.func (.func 45) #[] #[.pointer (some x)]) .nilFunc).run Try.prog W = .ok (.bool false) W := fun _ _ => by kernel_rfl
        refine (walk_any _ _ _ _ _).mono ?_
        rintro e w3 ⟨rfl, rfl⟩
        go_wp2_with fail
        have hwl : Below w.heap.size w ((wc.alloc (.cells #[.int .i64 0] 3)).alloc (.cells #[.int .i64 T.kind, .string T.cons, .slice a1 T.text.length c1, .slice a2 T.kids.length c2] 25)) := (hcut.out.below.alloc hcut.out.below.size _).alloc (by simp; have := hcut.out.below.size; omega) _
        have hwc : Below wc.heap.size wc ((wc.alloc (.cells #[.int .i64 0] 3)).alloc (.cells #[.int .i64 T.kind, .string T.cons, .slice a1 T.text.length c1, .slice a2 T.kids.length c2] 25)) := ((Below.refl _ wc).alloc (Nat.le_refl _) _).alloc (by simp) _
        have q6 : Blk ((wc.alloc (.cells #[.int .i64 0] 3)).alloc (.cells #[.int .i64 T.kind, .string T.cons, .slice a1 T.text.length c1, .slice a2 T.kids.length c2] 25)) wc.heap.size #[.int .i64 0] 3 := (Blk.new wc _ _).alloc _
        have q7 : Blk ((wc.alloc (.cells #[.int .i64 0] 3)).alloc (.cells #[.int .i64 T.kind, .string T.cons, .slice a1 T.text.length c1, .slice a2 T.kids.length c2] 25)) (wc.heap.size + 1) #[.int .i64 T.kind, .string T.cons, .slice a1 T.text.length c1, .slice a2 T.kids.length c2] 25 := by
          have := Blk.new (wc.alloc (.cells #[.int .i64 0] 3)) #[.int .i64 T.kind, .string T.cons, .slice a1 T.text.length c1, .slice a2 T.kids.length c2] 25
          rw [World.size_alloc] at this
          exact this
        have hsz : ((wc.alloc (.cells #[.int .i64 0] 3)).alloc (.cells #[.int .i64 T.kind, .string T.cons, .slice a1 T.text.length c1, .slice a2 T.kids.length c2] 25)).heap.size = wc.heap.size + 2 := by simp
        generalize (wc.alloc (.cells #[.int .i64 0] 3)).alloc (.cells #[.int .i64 T.kind, .string T.cons, .slice a1 T.text.length c1, .slice a2 T.kids.length c2] 25) = wL at *
        have hw0 := hcut.out.below.size
        have hww : w.heap.size < wc.heap.size := hcut.out.kt.lt
        have hM1 := hcut.out.lo
        have hMn := hcut.out.hi
        have KTL := hide (hcut.out.kt.below hwc)
        have KM := hide (hcut.out.km.below hwc)
        have KR := hide (hcut.out.kr.below hwc)
        have KW := hide (hcut.out.kw.below hwc)
        have kml := hcut.out.km.lt
        have krl := hcut.out.kr.lt
        have kwl := hcut.out.kw.lt
        have KPL := hide (show Keep (fun k => k ≠ w.heap.size + 1) w2 wL from ⟨Nat.le_trans hcut.out.keep.size hwc.size, fun k hk hl => (hwc.block k (Nat.lt_of_lt_of_le hl hcut.out.keep.size)).trans (hcut.out.keep.block k hk hl)⟩)
        refine wpIn_wide.1 (range_law1 (sb := 8) (n := 10) (by omega) (gf := 45) (lb := #[.pointer (some ⟨wc.heap.size + 1, 0, none⟩)]) rfl (enters_of Try.func45 (by kernel_rfl) rfl)
          (walk_iter T (by have := HC.out; omega) (wc.heap.size + 1) wL (fun k => k = wc.heap.size) (fun k => k < w.heap.size) (fun k hk => ⟨by omega, by omega⟩) q7 (HT.out _ hwl) (fun k hk => by omega))
          (fun k hk => by omega) (IW w wL (pre T) wc.heap.size M) (fun c _ W => IXW w wL wc.heap.size M c W) (fun s A B h ht => h.turn ht (by omega)) (fun c s A B h ht => h.turn ht (by omega))
          ⟨hwl, q6, Keep.refl _ _, hM1⟩ (BW (pre T) wL.heap.size) (fun pr x b A B h ht => h.turn ht) ?assign ?body ?done ?stop)
        case assign =>
          intro l pr x W0 W K hI0 hb0 hR hI hK
          obtain ⟨xt, xv⟩ := x
          obtain ⟨ord, htr⟩ := hR
          dsimp only at ord htr
          obtain ⟨y1, z1, y2, z2, rfl, _, _, _, _⟩ := htr.rt.open
          have hWs := hI.keep.size
          have hb1 := (Below.refl W.heap.size W).alloc (Nat.le_refl _) (.cells #[.int .i64 xt.kind, .string xt.cons, .slice y1 xt.text.length z1, .slice y2 xt.kids.length z2] 25)
          have HKK := hK W.heap.size (W.alloc (.cells #[.int .i64 xt.kind, .string xt.cons, .slice y1 xt.text.length z1, .slice y2 xt.kids.length z2] 25)) (Wrote.alloc _ _ _) (hI.turn (Turn.alloc _ _ _ hWs) (by omega)) ⟨ord, ⟨_, _, _, _, rfl, Blk.new _ _ _⟩, RT.below hb1 htr.rt.to, hWs⟩
          clear hK htr hI hI0 hb0 hb1
          simp only [List.setIfInBounds_toArray, List.set_cons_succ, List.set_cons_zero] at HKK ⊢
          gi_wp2_with fail
          exact HKK
        case body =>
          intro l pr x b W hI hB hlen
          obtain ⟨xt, xv⟩ := x
          obtain ⟨y1, z1, y2, z2, e, hbk⟩ := hB.ex
          dsimp only at e hbk
          subst e
          obtain ⟨p, hp⟩ : ∃ p, pr.length = p := ⟨_, rfl⟩
          have hpM := hI.lt
          have hkn := hI.kn
          rw [hp] at hpM hkn
          have hpn : p < n := by omega
          have hpT : p < (pre T).length := by rw [HNN.out]; exact hpn
          have hxt : xt = (pre T)[p] := by
            obtain ⟨r, hr⟩ := hB.order
            have : (pre T)[p]? = some xt := by rw [← hr]; simp [← hp]
            rw [List.getElem?_eq_getElem hpT] at this
            injection this with this
            exact this.symm
          obtain ⟨v0, v1, v2, v3, x0, x1, x2, x3, hxr⟩ := HRC.out.get p hpT
          rw [← hxt] at hxr
          obtain ⟨s1, t1, s2, t2, e, _⟩ := hxr.open
          simp only [Value.agg.injEq, Array.mk.injEq, List.cons.injEq, and_true] at e
          obtain ⟨rfl, rfl, rfl, rfl⟩ := e
          have hkp : ∀ j u, xs[j]? = some u → W.cell? ⟨g2, j, none⟩ = some u := fun j u hj => by
            have h1 := HNW.out j u hj
            rw [add_mk, Nat.zero_add] at h1
            have h2 := (KPL.out.cell (show g2 ≠ w.heap.size + 1 by omega) hg2l j).trans h1
            exact (hI.keep.cell (show g2 ≠ wc.heap.size by have := hcut.out.keep.size; omega) (by have := KPL.out.size; omega) j).trans h2
          have x0' := hkp _ _ x0
          have x1' := hkp _ _ x1
          have x2' := hkp _ _ x2
          have x3' := hkp _ _ x3
          have hWl := hI.keep.size
          have kpl2 := KPL.out.size
          have kc2 := hcut.out.keep.size
          have c5 : W.cell? ⟨w2.heap.size, 0, none⟩ = some (.slice (some ⟨g2, 0, none⟩) n cap2) := (hI.keep.cell (show w2.heap.size ≠ wc.heap.size by omega) (by omega) 0).trans (KW.out.cell 0)
          have c6 := hkn.cell 0
          have f6 := hkn.free 0
          have l6 := hkn.lt
          have cM : W.cell? ⟨w.heap.size + 1, 0, none⟩ = some (.int .i64 (M : Int)) := (hI.keep.cell (show w.heap.size + 1 ≠ wc.heap.size by omega) (by omega) 0).trans (KM.out.cell 0)
          have lM : w.heap.size + 1 < W.heap.size := by omega
          have l5 : w2.heap.size < W.heap.size := by omega
          have lg : g2 < W.heap.size := by omega
          have d0 := hbk.cell 0
          have d1 := hbk.cell 1
          have d2 := hbk.cell 2
          have d3 := hbk.cell 3
          have dl := hbk.lt
          have hbW : Below W.heap.size W W.drew := Below.drew (Below.refl _ _)
          have hTT : sameB xt xt = true := (sameB_eq xt xt).2 rfl
          have HR := hide (rsame_any xt xt _ _ W.drew (RT.below hbW hB.rt) (RT.below hbW (RTo.keep (w := w2) (ok := fun k => k < w.heap.size) ⟨by omega, fun k hk hl => (hI.keep.block k (by omega) (by omega)).trans (KPL.out.block k (by omega) hl)⟩ hxr).to))
          rw [hTT] at HR
          have hpi : (p : Int) < (n : Int) := by omega
          have hpm : Try.prog.follows .mixedOrders = true := by kernel_rfl
          have HN5 := hide (show ∀ w5 : World, Below W.drew.heap.size W.drew w5 → w5.cell? ⟨wc.heap.size, 0, none⟩ = some (.int .i64 (p : Int)) ∧ w5.frozen? ⟨wc.heap.size, 0, none⟩ = false ∧ wc.heap.size < w5.heap.size ∧ w5.cell? ⟨w.heap.size + 1, 0, none⟩ = some (.int .i64 (M : Int)) ∧ w.heap.size + 1 < w5.heap.size ∧ w.heap.size + 1 ≠ wc.heap.size from fun w5 h =>
            ⟨(h.cell (p := ⟨wc.heap.size, 0, none⟩) l6).trans c6, (h.frozen (p := ⟨wc.heap.size, 0, none⟩) l6).trans f6, Nat.lt_of_lt_of_le l6 h.size, (h.cell (p := ⟨w.heap.size + 1, 0, none⟩) lM).trans cM, Nat.lt_of_lt_of_le lM h.size, by omega⟩)
          have HE5 := hide (show ∀ w5 : World, Below W.drew.heap.size W.drew w5 → ∀ z : Int, z = (p : Int) + 1 → Wrote (fun k => k = wc.heap.size) W (w5.setCell ⟨wc.heap.size, 0, none⟩ (.int .i64 z)) ∧ Below w.heap.size w (w5.setCell ⟨wc.heap.size, 0, none⟩ (.int .i64 z)) ∧ Blk (w5.setCell ⟨wc.heap.size, 0, none⟩ (.int .i64 z)) wc.heap.size #[.int .i64 z] 3 ∧ Keep (fun k => k ≠ wc.heap.size) wL (w5.setCell ⟨wc.heap.size, 0, none⟩ (.int .i64 z)) from fun w5 h z hz => by
            have h1 : Wrote (fun k => k = wc.heap.size) W (w5.setCell ⟨wc.heap.size, 0, none⟩ (.int .i64 z)) := (Wrote.draw _ W 1).trans ((Wrote.of_below h).trans (Wrote.set _ _ rfl))
            have h2 : Blk w5 wc.heap.size #[.int .i64 (p : Int)] 3 := (h.block _ l6).trans hkn
            exact ⟨h1, hI.below.trans (h1.below (by omega) (fun k hk => by omega)), one_set h2, hI.keep.trans (h1.keep (fun k hk => hk))⟩)
          have hdn : decide (n ≤ p) = false := by simp; omega
          have hlp : ∀ x : Tm × Value, (pr ++ [x]).length = p + 1 := fun x => by simp [hp]
          have HX := hide (show ∀ (x : Tm × Value) (a5 : Act) (w5 : World), Below W.drew.heap.size W.drew w5 → ((p : Int) + 1 == (M : Int)) = true → rangePost (fun k => k = wc.heap.size) (IW w wL (pre T) wc.heap.size M) (fun c _ W => IXW w wL wc.heap.size M c W) (pr ++ [x]) W (.exit 0) a5 (w5.setCell ⟨wc.heap.size, 0, none⟩ (.int .i64 ((p : Int) + 1))) from fun x a5 w5 h hm => by
            have e : (p : Int) + 1 = (M : Int) := by simpa using hm
            obtain ⟨g1, g2, g3, g4⟩ := HE5.out w5 h _ rfl
            rw [e] at g1 g2 g3 g4 ⊢
            exact ⟨g1, rfl, g2, g3, g4⟩)
          have HXN := hide (show ∀ (x : Tm × Value) (a5 : Act) (w5 : World), Below W.drew.heap.size W.drew w5 → ((p : Int) + 1 == (M : Int)) = false → rangePost (fun k => k = wc.heap.size) (IW w wL (pre T) wc.heap.size M) (fun c _ W => IXW w wL wc.heap.size M c W) (pr ++ [x]) W .normal a5 (w5.setCell ⟨wc.heap.size, 0, none⟩ (.int .i64 ((p : Int) + 1))) from fun x a5 w5 h hm => by
            have e : ¬ (p : Int) + 1 = (M : Int) := by simpa using hm
            obtain ⟨g1, g2, g3, g4⟩ := HE5.out w5 h _ rfl
            refine ⟨g1, g2, ?_, g4, by rw [hlp]; omega⟩
            rw [hlp]
            exact g3)
          clear hTT hbW hbk hkn hkp hxr x0 x1 x2 x3 hI hB hp hxt hnf e0 e1 e2 e3
          simp only [List.setIfInBounds_toArray, List.set_cons_succ, List.set_cons_zero]
          gi_wp2_with fail
          gi_region_with_o (refine ⟨trivial, ?_⟩; gi_at_call 17; refine (CallsIn.inRound l (callsIn_wide.2 HR.out)).mono ?_; rintro e w5 ⟨rfl, hb5⟩; obtain ⟨c6', f6', l6', cM', lM', nM⟩ := HN5.out w5 hb5; have HB5 := hide hb5; clear hb5)
          all_goals gi_wp2_with fail
          all_goals first | exact HX.out _ _ _ HB5.out (by assumption) | exact HXN.out _ _ _ HB5.out (by assumption)
        case done =>
          intro D xs W hD hS hI hKD
          have h1 := hI.lt
          have h2 : xs.length = n := by rw [← HNN.out, ← hS, List.length_map]
          omega
        case stop =>
          intro D c pr W hD hS hI hKD
          obtain rfl := hI.code
          refine wpIn_wide.2 ?_
          have KT := hide (KTL.out.keep hI.keep (by show w.heap.size ≠ wc.heap.size; omega))
          replace KM := hide (KM.out.keep hI.keep (by show w.heap.size + 1 ≠ wc.heap.size; omega))
          replace KR := hide (KR.out.keep hI.keep (by show w.heap.size + 1 + 1 ≠ wc.heap.size; omega))
          replace KW := hide (KW.out.keep hI.keep (by show w2.heap.size ≠ wc.heap.size; have := hcut.out.keep.size; omega))
          have KN := hide hI.kn
          have HB := hide hI.below
          have HKD := hide hKD
          have HDD := hide hD
          have HWW := hide hww
          have HWL := hide hsz
          have HCN := hide (show (cnt T : Int) = (n : Int) by rw [← HNN.out, pre_len])
          have hx0 := KT.out.cell 0
          have hx1 := KT.out.cell 1
          have hx2 := KT.out.cell 2
          have hx3 := KT.out.cell 3
          have hxl := KT.out.lt
          clear hI hKD hD hcut q6 q7 hwl hwc hsz hww hw0 e0 e1 e2 e3 el hnf
          go_wp2_with fail
          refine (size_any T (by have := HC.out; omega) _ _ (HT.out _ HB.out).to).mono ?_
          rintro e w5 ⟨rfl, hb⟩
          rw [HCN.out]
          replace HB := hide (below_next HB.out hb)
          replace KM := hide (KM.out.below hb)
          replace KR := hide (KR.out.below hb)
          replace KW := hide (KW.out.below hb)
          replace KN := hide (KN.out.below hb)
          replace HKD := hide ((hb.block D (Array.getElem?_eq_some_iff.1 HKD.out).1).trans HKD.out)
          clear hb hx0 hx1 hx2 hx3 hxl KT
          go_wp2_with fail
          refine (HA.out _).mono ?_
          rintro e w6 ⟨rfl, hb⟩
          replace HB := hide (below_next HB.out hb)
          replace KM := hide (KM.out.below hb)
          replace KR := hide (KR.out.below hb)
          replace KW := hide (KW.out.below hb)
          replace KN := hide (KN.out.below hb)
          replace HKD := hide ((hb.block D (Array.getElem?_eq_some_iff.1 HKD.out).1).trans HKD.out)
          clear hb
          have x0 := KM.out.cell 0
          have x1 := KM.out.lt
          have x2 := KR.out.cell 0
          have x3 := KR.out.lt
          have x4 := KR.out.free 0
          have x5 := KW.out.cell 0
          have x6 := KW.out.lt
          have x7 := KN.out.cell 0
          have x8 := KN.out.lt
          go_wp2_with fail
          have hKD2 : (w6.setCell ⟨w.heap.size + 1 + 1, 0, none⟩ (.bool true)).heap[D]? = some (.deferred (some [])) := (Below.heap_setCell _ _ _ _ (by show D ≠ w.heap.size + 1 + 1; have := HDD.out; have := HWL.out; omega)).trans HKD.out
          exact ret8c rfl rfl hKD2 (one_set KR.out) ⟨rfl, (Turn.putObj (B := w.heap.size) _ (by have := HDD.out; have := HWL.out; have := HWW.out; omega) hKD2 rfl).below (HB.out.setCell (by simp; omega) _) (Nat.le_refl _)⟩
theorem law_walkr (T : Tm) (m : Int) (v : Value) (w : World) (hT : RT w T v) (hm : (Lit.int .i64 m).wf = true) : Calls Try.prog 8 #[v, .int .i64 m] w fun e w' => e = .returned (.bool true) ∧ Below w.heap.size w w' :=
  law_walk T m v w hT (by simp only [Lit.wf, Bool.and_eq_true, decide_eq_true_eq] at hm; exact hm)
end Go.Proofs.Ytfndldfnlncabaa
