/- The walks of All and Runs. -/
import Derived.Test.YtfngkdcjifdliaaAll
import Derived.Laws.OwnMore
set_option linter.unusedVariables false
set_option linter.unusedSimpArgs false
set_option linter.unnecessarySimpa false
set_option linter.deprecated false
namespace Go.Proofs.Ytfngkdcjifdliaa
open Go.RowKit Go.Shelf
attribute [local go_sem] Oper.semAt_some

theorem info47 : (Try.prog.info? 47).map (fun i => (i.zero, i.size, i.bytes)) = some (some (.agg #[.int .i64 0, .int .i64 0]), 2, 16) := by kernel_rfl
set_option maxHeartbeats 1000000 in
theorem All_any (s : St) (w : World) : Calls Try.prog 25 #[sv s] w fun e w' => e = .returned (.func (.func 30) #[] #[.pointer (some ⟨w.heap.size, 0, none⟩)]) ∧ w' = w.alloc (.cells (svC s) 24) := by
  go_enter Try.func25, Try.ntmps25
  go_wp2_with fail
  go_ret
  exact ⟨rfl, rfl⟩

/-- The law of a range over a function where the loop's one variable is laid in a slot. -/
theorem range_lawS {α : Type} {P : Program} {n : Nat} {g : Operand} {p1 sb : Tmp} {assign body : Code} {Q : Exit → Act → World → Prop} {a : Act} {w : World}
    (h1 : 1 ≤ n) {gf : Nat} {lb : Array Value} (hg : a.eval g = .func (.func gf) #[] lb) (eg : ∀ args w, (callFunc gf args).run P w = .ok (.enter gf args) w)
    {e1 : α → Value} {R : List α → α → World → World → Prop} {Wr : Nat → TypeId → Prop} {S Sp : List α → Prop} {N : Nat} (hseq : Iter P gf lb (fun x => #[e1 x]) R Wr S Sp N w)
    (I : List α → World → Prop) (hI : ∀ s A B, I s A → Turn w.heap.size A B → I s B) (h0 : I [] w)
    (Bx : List α → α → Prop) (hBx : ∀ pre x W0 W, R pre x W0 W → Bx pre x)
    (hassign : ∀ (l : Nat) (x : α) (W : World) (K : Act → World → Prop), K { tmps := (a.tmps.setIfInBounds p1 (e1 x)).setIfInBounds sb (e1 x), defers := [] } W →
      assign.wpIn (Fence.wide.inRound l) (n - 1 - 1) P (Exit.then K (fun _ _ _ => False)) { tmps := a.tmps.setIfInBounds p1 (e1 x), defers := [] } W)
    (hbody : ∀ (l : Nat) (pre : List α) (x : α) (W : World), I pre W → Bx pre x → pre.length < N → body.wpIn (Fence.wide.inRound l) (n - 1 - 1) P (rangePost Wr I (fun _ _ _ => False) (pre ++ [x]) W) { tmps := (a.tmps.setIfInBounds p1 (e1 x)).setIfInBounds sb (e1 x), defers := [] } W)
    (hdone : ∀ (D : Nat) (xs : List α) (W : World), w.heap.size ≤ D → S xs → I xs W → W.heap[D]? = some (.deferred (some [])) → Q .normal { a with defers := { target := .collected D, args := #[] } :: a.defers } W) :
    (Code.rangeFunc g #[p1] assign body).wpIn Fence.wide n P Q a w :=
  range_law h1 hg eg hseq (fun _ => rfl) I (fun _ _ _ => False) hI (fun _ _ _ _ h _ => h) h0 (fun pre x a' W => a' = { tmps := (a.tmps.setIfInBounds p1 (e1 x)).setIfInBounds sb (e1 x), defers := [] } ∧ Bx pre x)
    (fun pre x a' A B h ht => h)
    (fun l pre x W0 W K g1 g2 g3 g4 g5 => by
      have e : Array.foldl (fun (t : Array Value) (x : Tmp × Value) => match x with | (p, v) => t.setIfInBounds p v) a.tmps (#[p1].zip #[e1 x]) = a.tmps.setIfInBounds p1 (e1 x) := by simp
      rw [e]
      exact hassign l x W K (g5 _ W (Wrote.refl _ _) g4 ⟨rfl, hBx _ _ _ _ g3⟩))
    (fun l pre x a' W g1 g2 g3 => by obtain ⟨rfl, g4⟩ := g2; exact hbody l pre x W g1 g4 g3) hdone (fun D c pre W _ _ h _ => h.elim)

/-- The cells of runs. -/
def rnC : List (Nat × Nat) → List Value
  | [] => []
  | r :: rs => .int .i64 (r.1 : Int) :: .int .i64 (r.2 : Int) :: rnC rs
theorem rnC_append (a b : List (Nat × Nat)) : rnC (a ++ b) = rnC a ++ rnC b := by
  induction a with
  | nil => rfl
  | cons x xs ih => rw [List.cons_append, rnC, ih, rnC]; rfl
theorem rnC_len (a : List (Nat × Nat)) : (rnC a).length = a.length * 2 := by
  induction a with
  | nil => rfl
  | cons x xs ih => rw [rnC, List.length_cons, List.length_cons, ih, List.length_cons]; omega
theorem rnC_get : ∀ (l : List (Nat × Nat)) (i : Nat) (h : i < l.length), (rnC l)[i * 2]? = some (.int .i64 (l[i].1 : Int)) ∧ (rnC l)[i * 2 + 1]? = some (.int .i64 (l[i].2 : Int))
  | x :: xs, 0, _ => by rw [rnC]; exact ⟨rfl, rfl⟩
  | x :: xs, i + 1, h => by
    have := rnC_get xs i (by simpa using h)
    rw [rnC]
    simpa [Nat.add_mul] using this
theorem rnC_set (l : List (Nat × Nat)) (a b c : Nat) : (rnC (l ++ [(a, b)])).set (l.length * 2 + 1) (.int .i64 (c : Int)) = rnC (l ++ [(a, c)]) := by
  rw [rnC_append, rnC_append, List.set_append_right _ _ (by rw [rnC_len]; omega), rnC_len, show l.length * 2 + 1 - l.length * 2 = 1 by omega]
  rfl
theorem own_setrow {w : World} {B g n size c j : Nat} {e : TypeId} {xs : List Value} (h : w.ownsRow B e size (.slice (some ⟨g, 0, none⟩) n c) n xs) (u : Value) (hj : j < n * size) : (w.setCell ⟨g, j, none⟩ u).ownsRow B e size (.slice (some ⟨g, 0, none⟩) n c) n (xs.set j u) := by
  refine ⟨by rw [List.length_set]; exact h.1, ?_⟩
  rcases h.2 with ⟨h', _⟩ | ⟨g', cap, cur, h', hB, hh, hc, hm, hs, ht⟩
  · simp at h'
  · simp only [Value.slice.injEq, Option.some.injEq, Addr.mk.injEq, and_true, true_and] at h'
    obtain ⟨rfl, rfl⟩ := h'
    refine Or.inr ⟨g, c, cur.setIfInBounds j u, rfl, hB, ?_, hc, hm, by simpa using hs, ?_⟩
    · simp only [World.setCell, Array.getElem?_modify, hh]
      simp
    · rw [Array.toList_setIfInBounds, ← ht]
      exact List.take_set
theorem own_set {w : World} {B b i n size : Nat} {e t : TypeId} {v u : Value} {xs : List Value} {c : Array Value} (h : w.ownsRow B e size v n xs) (hb : Blk w b c t) (ht : t ≠ e) : (w.setCell ⟨b, i, none⟩ u).ownsRow B e size v n xs := by
  refine h.kept (row := some b) ⟨rfl, rfl, rfl, by simp [World.setCell], fun k _ hk => Below.heap_setCell _ _ _ _ (fun e => hk (by simp [e]))⟩ (Or.inr fun e2 => ?_)
  rcases h.2 with ⟨rfl, _⟩ | ⟨g, cap, cur, rfl, hB, hh, _⟩
  · cases e2
  · simp only [Value.ownBlock, Option.some.injEq] at e2
    subst e2
    unfold Blk at hb
    rw [hb] at hh
    injection hh with hh
    injection hh with _ h3 _
    exact ht h3
/-- What holds between two rounds. -/
structure IRn (w wL : World) (pr : List Nat) (W : World) : Prop where
  below : Below w.heap.size w W
  kc : KC (fun k t => k = w.heap.size + 1 ∧ t = 44 ∨ t = 47 ∧ w.heap.size + 2 ≤ k) wL W
  ex : ∃ v, Blk W (w.heap.size + 1) #[v] 44 ∧ W.ownsRow (w.heap.size + 2) 47 2 v (runsB pr).length (rnC (runsB pr))
theorem IRn.turn {w wL : World} {pr : List Nat} {A C : World} {m : Nat} (h : IRn w wL pr A) (ht : Turn m A C) (hm : w.heap.size ≤ m) : IRn w wL pr C := by
  obtain ⟨h1, h2, v, h3, h4⟩ := h
  refine ⟨ht.below h1 hm, h2.trans ht.kc, v, ht.cells _ _ _ _ h3, h4.1, ?_⟩
  rcases h4.2 with h5 | ⟨g, cap, cur, e1, e2, e3, e4⟩
  · exact .inl h5
  · exact .inr ⟨g, cap, cur, e1, e2, ht.cells _ _ _ _ e3, e4⟩
/-- What Runs answers. -/
def RnP (s : St) (w : World) (e : Ending) (w' : World) : Prop := ∃ v, e = .returned v ∧ Hid (w'.ownsRow w.heap.size 47 2 v (runsOf s).length (rnC (runsOf s)) ∧ Below w.heap.size w w')

theorem two_cells (w : World) (a b : Value) (t : TypeId) : ∀ j u, [a, b][j]? = some u → (w.alloc (.cells #[a, b] t)).cell? ((⟨w.heap.size, 0, none⟩ : Addr).add j) = some u := by
  intro j u hj
  have h := Blk.cell (Blk.new w #[a, b] t) j
  rw [show (⟨w.heap.size, 0, none⟩ : Addr).add j = ⟨w.heap.size, j, none⟩ from by unfold Addr.add; split <;> simp_all, h, ← hj]
  simp
theorem ret12 {R : Ending → World → Prop} {a : Act} {W : World} {D : Nat} {v : Value} {n : Nat} (h2 : (a.tmps[2]?).getD undef = v) (hd : a.defers = [{ target := .collected D, args := #[] }]) (hK : W.heap[D]? = some (.deferred (some [])))
    (hR : R (.returned v) (W.putObj D (.deferred none))) : bodyPostM Fence.wide n Try.prog Try.f12 R .ret a W := by
  show LeavesInM Fence.wide n Try.prog Try.f12 a.tmps R a.defers .returning W
  rw [hd]
  refine ⟨by simp, .inl ⟨_, _, rfl, run_takeDeferred hK, ?_⟩⟩
  refine ⟨v, ?_, hR⟩
  simp [results, Try.results12, h2, go_sem]
theorem runs_lt (s : St) (n : Nat) (h : n ≤ 256) : (runsB (bytesTo s n)).length ≤ n := by
  have key : ∀ bs : List Nat, (runsB bs).length ≤ bs.length := by
    have h : ∀ (n : Nat) (bs : List Nat), bs.length = n → (runsB bs).length ≤ bs.length := by
     intro n
     induction n with
     | zero => intro bs h; rw [List.length_eq_zero_iff.1 h]; exact Nat.le_refl _
     | succ n ihn =>
      intro bs h
      rcases snoc_cases bs with rfl | ⟨bs, b, rfl⟩
      · exact Nat.le_refl _
      have ih := ihn bs (by simpa using h)
      clear h ihn
      rw [runsB_snoc, List.length_append]
      rcases snoc_cases (runsB bs) with h | ⟨l', r0, h⟩
      · rw [h, addR_nil]; simp
      · rw [h, addR_snoc]
        rw [h, List.length_append] at ih
        simp only [List.length_cons, List.length_nil] at ih ⊢
        split
        · simp; omega
        · simp; omega
    exact fun bs => h _ bs rfl
  exact Nat.le_trans (key _) (bytesTo_len s n)
set_option maxHeartbeats 4000000 in
set_option maxRecDepth 100000 in
theorem Runs_any (s : St) (hs : s.ok) (w : World) : Calls Try.prog 12 #[sv s] w (RnP s w) := by
  refine (callsIn_wide (n := 10)).1 ?_
  refine callsIn_of_wp_marks Try.func12 rfl trivial ?_ rfl
  simp only [Try.ntmps12, List.size_toArray, List.length_cons, List.length_nil, Nat.reduceAdd, Nat.reduceSub, Array.replicate_succ, Array.replicate_zero, List.push_toArray, List.append_toArray, List.nil_append, List.cons_append]
  refine wpIn_wide.2 ?_
  go_wp2_with (go_at_call 25; refine (All_any _ _).mono ?_; rintro e w3 ⟨rfl, hw3⟩; rw [hw3])
  obtain ⟨wL, hL⟩ : ∃ wL, ((w.alloc (.cells (svC s) 24)).alloc (.cells #[.slice none 0 0] 44)).alloc (.cells (svC s) 24) = wL := ⟨_, rfl⟩
  rw [hL]
  have hbL : Below w.heap.size w wL := by rw [← hL]; exact (((Below.refl _ w).alloc (Nat.le_refl _) _).alloc (by simp) _).alloc (by simp; omega) _
  have hsL : wL.heap.size = w.heap.size + 3 := by rw [← hL]; simp
  have hx1 : Blk wL (w.heap.size + 1) #[.slice none 0 0] 44 := by
    rw [← hL]
    have := (Blk.new (w.alloc (.cells (svC s) 24)) #[.slice none 0 0] 44).alloc (.cells (svC s) 24)
    rw [World.size_alloc] at this
    exact this
  have hx2 : Blk wL (w.heap.size + 2) (svC s) 24 := by
    rw [← hL]
    have := Blk.new ((w.alloc (.cells (svC s) 24)).alloc (.cells #[.slice none 0 0] 44)) (svC s) 24
    rw [World.size_alloc, World.size_alloc] at this
    exact this
  have hIt := all_iter s hs (w.heap.size + 2) wL (fun k t => k = w.heap.size + 1 ∧ t = 44 ∨ t = 47 ∧ w.heap.size + 2 ≤ k) hx2 (by rintro (⟨h, _⟩ | ⟨h, _⟩); omega; cases h)
  have H0 := hide (show IRn w wL [] wL from ⟨hbL, KC.refl _ _, _, hx1, World.ownsRow_nil _ _ _ _⟩)
  have HSL := hide hsL
  clear hL hbL hx1 hx2 hsL
  refine wpIn_wide.1 (range_lawS (sb := 4) (n := 10) (by omega) (gf := 30) (lb := #[.pointer (some ⟨w.heap.size + 2, 0, none⟩)]) rfl (enters_of Try.func30 (by kernel_rfl) rfl) hIt
    (IRn w wL) (fun s A C h ht => h.turn ht (by have := HSL.out; omega)) ?start (fun pr x => x < 256 ∧ pr = bytesTo s x) (fun pr x W0 W h => ⟨h.1, h.2.2⟩) ?assign ?body ?done)
  case start => exact H0.out
  case assign =>
    intro l x W K hK
    simp only [List.setIfInBounds_toArray, List.set_cons_succ, List.set_cons_zero] at hK ⊢
    gi_wp2_with fail
    exact hK
  case body =>
    intro l pr x W hI hB hlen
    simp only [List.setIfInBounds_toArray, List.set_cons_succ, List.set_cons_zero]
    obtain ⟨v, k1, k2⟩ := hI.ex
    obtain ⟨hx256, hpr⟩ := hB
    obtain ⟨j0, hj, hy0, hy1, hy2⟩ := info_parts info47
    have hrl := runs_lt s x (by omega)
    rw [← hpr] at hrl
    have hrk := (runs_all s x (by omega)).1
    rw [← hpr] at hrk
    have HI := hide hI
    have HK1 := hide k1
    have HK2 := hide k2
    have HSN := hide (runsB_snoc pr x)
    have hsz : w.heap.size + 2 ≤ W.heap.size := by have := hI.kc.size; have := HSL.out; omega
    have hf := k1.free 0
    have hbl := k1.lt
    have e0 := k1.cell 0
    obtain ⟨rs, hrs⟩ : ∃ rs, runsB pr = rs := ⟨_, rfl⟩
    rw [hrs] at HK2 HSN k2 hrl hrk
    clear hpr hI k1 hrs
    obtain ⟨aR, cR, rfl, hat⟩ := own_shape k2
    have HAPP := hide (show ∀ (v' : Value) (W2 : World), addR rs x = rs ++ [(x, x)] → W2.ownsRow (w.heap.size + 2) 47 2 v' (rs.length + 1) (rnC rs ++ [.int .i64 (x : Int), .int .i64 (x : Int)]) → (W.alloc (.cells #[.int .i64 (x : Int), .int .i64 (x : Int)] 47)).grownBy W2 (Value.slice aR rs.length cR).ownBlock →
        Blk W2 (w.heap.size + 1) #[.slice aR rs.length cR] 44 ∧ Wrote (fun k t => k = w.heap.size + 1 ∧ t = 44 ∨ t = 47 ∧ w.heap.size + 2 ≤ k) W (W2.setCell ⟨w.heap.size + 1, 0, none⟩ v') ∧ IRn w wL (pr ++ [x]) (W2.setCell ⟨w.heap.size + 1, 0, none⟩ v') from fun v' W2 hadd ho hg => by
      have hne : some (w.heap.size + 1) ≠ (Value.slice aR rs.length cR).ownBlock := HK1.out.own_ne HK2.out (by decide)
      have hb2 : Blk W2 (w.heap.size + 1) #[.slice aR rs.length cR] 44 := (hg.block _ (by have := HK1.out.lt; simp; omega) hne).trans (HK1.out.alloc _)
      have hw : Wrote (fun k t => k = w.heap.size + 1 ∧ t = 44 ∨ t = 47 ∧ w.heap.size + 2 ≤ k) W (W2.setCell ⟨w.heap.size + 1, 0, none⟩ v') := by
        refine ((Wrote.alloc _ W _).trans (Wrote.of_grown hg (fun k hk => ?_))).trans (Wrote.set W2 v' hb2 (Or.inl ⟨rfl, rfl⟩))
        rcases HK2.out.2 with ⟨e, _⟩ | ⟨g, cap, cur, e, hB, hh, _⟩
        · rw [e] at hk; cases hk
        · rw [e] at hk
          simp only [Value.ownBlock, Option.some.injEq] at hk
          subst hk
          exact Or.inr ⟨cur, 47, _, (Below.heap_alloc _ _ _ (Array.getElem?_eq_some_iff.1 hh).1).trans hh, Or.inr ⟨rfl, hB⟩⟩
      refine ⟨hb2, hw, ?_, HI.out.kc.trans hw.kc, v', ?_, ?_⟩
      · refine HI.out.below.trans (hw.below (by omega) ?_)
        rintro k t (⟨h, _⟩ | ⟨_, h⟩) <;> omega
      · exact hb2.set 0 v'
      · rw [HSN.out, hadd, List.length_append, rnC_append]
        exact own_set ho hb2 (by decide))
    rcases snoc_cases rs with rfl | ⟨l', r0, rfl⟩
    · have HADD := hide (addR_nil x)
      gi_wp2_with (gi_at_builtin; refine wpListIn_append_own _ rfl _ _ 44 rfl (w.heap.size + 2) 47 j0 _ 2 16 Try.underlying44 hj hy0 hy1 hy2 rfl (by decide) _ _ _ rfl (HK2.out.alloc _) ⟨W.heap.size, 0, none⟩ 1 1 _ rfl rfl (two_cells W _ _ 47) (by simp [Value.oneCell']) (by unfold maxLen; omega) (by omega) (by simp; omega) ?_; intro v' W2 hown' hgrow hnil; obtain ⟨hb5, hwr, hiv⟩ := HAPP.out v' W2 HADD.out hown' hgrow; obtain ⟨a5, c5, rfl, _⟩ := own_shape hown'; have s5 := hb5.cell 0; have f5 := hb5.free 0; have m5 := hb5.lt; have HW5 := hide hwr; have HI5 := hide hiv; clear hown' hgrow hnil hwr hiv hb5)
      exact ⟨HW5.out, HI5.out⟩
    · obtain ⟨g, rfl, hBg, hgl, hcell⟩ := hat (by simp)
      have hr0 := hrk r0 (by simp)
      have hlen2 : (l' ++ [r0]).length = l'.length + 1 := by simp
      have hg1 := (rnC_get (l' ++ [r0]) l'.length (by simp)).2
      have hg2 : (l' ++ [r0])[l'.length]'(by simp) = r0 := by simp
      rw [hg2] at hg1
      have z1 := hcell _ _ hg1
      have hr02 : (r0.2 : Int) < 256 := by have := hr0.2; omega
      have hr2 := hr0.2
      have HADDS := hide (addR_snoc l' r0 x)
      have HSET := hide (own_setrow (j := l'.length * 2 + 1) HK2.out (.int .i64 (x : Int)) (by rw [hlen2]; omega))
      have HST := hide (rnC_set l' r0.1 r0.2 x)
      rw [hlen2] at hrl HK2 HSET HAPP e0 HK1
      obtain ⟨q, hq⟩ : ∃ q, l'.length = q := ⟨_, rfl⟩
      have HQ := hide hq
      rw [hq] at hrl z1 HK2 HSET HAPP HST e0 HK1
      have hq1 : ((q + 1 : Nat) : Int) - 1 = (q : Int) := by omega
      have hq2 : (0 : Int) < ((q + 1 : Nat) : Int) := by omega
      have hq3 : (q : Int) < ((q + 1 : Nat) : Int) := by omega
      have hq4 : q + 1 ≤ 256 := by omega
      clear hat hcell hg1 hg2 hlen2 hq k2
      have hz0 := hgl
      by_cases he : r0.2 + 1 = x
      · have hei : ((r0.2 : Int) + 1 == (x : Int)) = true := by rw [beq_iff_eq]; omega
        have hfr : W.frozen? ⟨g, q * 2 + 1, none⟩ = false := by
          rcases HK2.out.2 with ⟨h', _⟩ | ⟨g', cap, cur, h', hB, hh, _⟩
          · simp at h'
          · simp only [Value.slice.injEq, Option.some.injEq, Addr.mk.injEq, and_true, true_and] at h'
            obtain ⟨rfl, rfl⟩ := h'
            exact Blk.free (w := W) (c := cur) (t := 47) hh _
        have HEND := hide (show Wrote (fun k t => k = w.heap.size + 1 ∧ t = 44 ∨ t = 47 ∧ w.heap.size + 2 ≤ k) W (W.setCell ⟨g, q * 2 + 1, none⟩ (.int .i64 (x : Int))) ∧ IRn w wL (pr ++ [x]) (W.setCell ⟨g, q * 2 + 1, none⟩ (.int .i64 (x : Int))) from by
          have hcur : ∃ cur, W.heap[g]? = some (.cells cur 47 (0, 0)) := by
            rcases HK2.out.2 with ⟨h', _⟩ | ⟨g', cap, cur, h', hB, hh, _⟩
            · simp at h'
            · simp only [Value.slice.injEq, Option.some.injEq, Addr.mk.injEq, and_true, true_and] at h'
              obtain ⟨rfl, rfl⟩ := h'
              exact ⟨cur, hh⟩
          obtain ⟨cur, hcur⟩ := hcur
          have hw : Wrote (fun k t => k = w.heap.size + 1 ∧ t = 44 ∨ t = 47 ∧ w.heap.size + 2 ≤ k) W (W.setCell ⟨g, q * 2 + 1, none⟩ (.int .i64 (x : Int))) := Wrote.set W _ hcur (Or.inr ⟨rfl, hBg⟩)
          refine ⟨hw, HI.out.below.trans (hw.below (by omega) ?_), HI.out.kc.trans hw.kc, _, HK1.out.other (by omega), ?_⟩
          · rintro k t (⟨h, _⟩ | ⟨_, h⟩) <;> omega
          · have h1 := HSET.out
            rw [HST.out] at h1
            rw [HSN.out, HADDS.out, if_pos he, List.length_append, HQ.out]
            exact h1)
        clear HAPP HSET HST HADDS
        gi_wp2_with fail
        exact HEND.out
      · have hei : ((r0.2 : Int) + 1 == (x : Int)) = false := by rw [beq_eq_false_iff_ne]; omega
        have HADD := hide (show addR (l' ++ [r0]) x = l' ++ [r0] ++ [(x, x)] by rw [HADDS.out, if_neg he])
        gi_wp2_with (gi_at_builtin; refine wpListIn_append_own _ rfl _ _ 44 rfl (w.heap.size + 2) 47 j0 _ 2 16 Try.underlying44 hj hy0 hy1 hy2 rfl (by decide) _ _ _ rfl (HK2.out.alloc _) ⟨W.heap.size, 0, none⟩ 1 1 _ rfl rfl (two_cells W _ _ 47) (by simp [Value.oneCell']) (by unfold maxLen; omega) (by omega) (by simp; omega) ?_; intro v' W2 hown' hgrow hnil; obtain ⟨hb5, hwr, hiv⟩ := HAPP.out v' W2 HADD.out hown' hgrow; obtain ⟨a5, c5, rfl, _⟩ := own_shape hown'; have s5 := hb5.cell 0; have f5 := hb5.free 0; have m5 := hb5.lt; have HW5 := hide hwr; have HI5 := hide hiv; clear hown' hgrow hnil hwr hiv hb5)
        exact ⟨HW5.out, HI5.out⟩
  case done =>
    intro D ys W hD hS hI hKD
    obtain ⟨v, k1, k2⟩ := hI.ex
    have e0 := k1.cell 0
    have el := k1.lt
    obtain ⟨aR, cR, rfl, _⟩ := own_shape k2
    have HE := hide (show RnP s w (.returned (.slice aR (runsB ys).length cR)) (W.putObj D (.deferred none)) from by
      have ht : Turn w.heap.size W (W.putObj D (.deferred none)) := Turn.putObj _ (by have := HSL.out; omega) hKD rfl
      have h3 := hI.turn ht (Nat.le_refl _)
      obtain ⟨v', q1, q2⟩ := h3.ex
      refine ⟨_, rfl, ?_, h3.below⟩
      have hv : v' = .slice aR (runsB ys).length cR := by
        have h4 := (ht.cells _ _ _ _ k1)
        unfold Blk at q1
        rw [h4] at q1
        injection q1 with q1
        injection q1 with q1
        have := congrArg Array.toList q1
        simpa using this.symm
      subst hv
      subst hS
      exact own_base q2 (by omega))
    clear hI k1 k2 hS
    go_wp2_with fail
    exact ret12 rfl rfl hKD HE.out
end Go.Proofs.Ytfngkdcjifdliaa
