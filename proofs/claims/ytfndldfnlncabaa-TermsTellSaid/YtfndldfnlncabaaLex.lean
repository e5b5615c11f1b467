/- The walks of the program's Lexemes and of the reference's: the lexemes' texts, each of the program's in a block of its own. -/
import Derived.Test.YtfndldfnlncabaaWalk
import Derived.Deep.RegionHeld3
set_option linter.unusedVariables false
set_option linter.unusedSimpArgs false
set_option linter.unnecessarySimpa false
set_option linter.deprecated false
namespace Go.Proofs.Ytfndldfnlncabaa
open Go.RowKit Go.Shelf
attribute [local go_sem] Oper.semAt_some

/-- The texts of the lexemes among terms. -/
def lexL (l : List Tm) : List (List UInt8) := (l.filter (fun x => decide (x.kind = 2))).map Tm.text
theorem lexL_append (a b : List Tm) : lexL (a ++ b) = lexL a ++ lexL b := by simp [lexL]
theorem lexL_len (l : List Tm) : (lexL l).length ≤ l.length := by unfold lexL; rw [List.length_map]; exact List.length_filter_le _ _
theorem lexL_yes (l : List Tm) (x : Tm) (h : x.kind = 2) : lexL (l ++ [x]) = lexL l ++ [x.text] := by rw [lexL_append]; simp [lexL, h]
theorem lexL_no (l : List Tm) (x : Tm) (h : ¬ x.kind = 2) : lexL (l ++ [x]) = lexL l := by rw [lexL_append]; simp [lexL, h]

/-- Texts, each in a block of its own among those that are so. -/
def LX (w : World) : (Nat → Prop) → List (List UInt8) → List Value → Prop
  | _, [], xs => xs = []
  | P, t :: ts, xs => ∃ a c ys Q, xs = .slice a t.length c :: ys ∧ TBo Q w a t ∧ (∀ k, Q k → P k) ∧ LX w (fun k => P k ∧ ¬ Q k) ts ys
theorem TBo.map {ok : Nat → Prop} {w w' : World} {a : Option Addr} {bs : List UInt8} (h : TBo ok w a bs) (hk : ∀ k c, ok k → w.heap[k]? = some (.cells c 5 (0, 0)) → w'.heap[k]? = some (.cells c 5 (0, 0))) : TBo ok w' a bs :=
  ⟨h.1, fun hn => by
    obtain ⟨b, cur, e, ho, hh, hc⟩ := h.2 hn
    exact ⟨b, cur, e, ho, hk b cur ho hh, hc⟩⟩
theorem LX.map {w w' : World} : ∀ {ts : List (List UInt8)} {P : Nat → Prop} {xs : List Value}, (∀ k c, P k → w.heap[k]? = some (.cells c 5 (0, 0)) → w'.heap[k]? = some (.cells c 5 (0, 0))) → LX w P ts xs → LX w' P ts xs
  | [], _, _, _, h => h
  | t :: ts, P, xs, hk, h => by
    obtain ⟨a, c, ys, Q, e, ht, hq, hr⟩ := h
    exact ⟨a, c, ys, Q, e, ht.map (fun k c h1 h2 => hk k c (hq k h1) h2), hq, LX.map (fun k c h1 h2 => hk k c h1.1 h2) hr⟩
theorem LX.weak {w : World} : ∀ {ts : List (List UInt8)} {P P' : Nat → Prop} {xs : List Value}, (∀ k, P k → P' k) → LX w P ts xs → LX w P' ts xs
  | [], _, _, _, _, h => h
  | t :: ts, P, P', xs, hk, h => by
    obtain ⟨a, c, ys, Q, e, ht, hq, hr⟩ := h
    exact ⟨a, c, ys, Q, e, ht, fun k h1 => hk k (hq k h1), LX.weak (fun k h1 => ⟨hk k h1.1, h1.2⟩) hr⟩
theorem LX.snoc {w : World} {t : List UInt8} {a : Option Addr} {c : Nat} {Q : Nat → Prop} (ht : TBo Q w a t) : ∀ {ts : List (List UInt8)} {P P' : Nat → Prop} {xs : List Value}, LX w P ts xs → (∀ k, P k → P' k) → (∀ k, Q k → P' k ∧ ¬ P k) → LX w P' (ts ++ [t]) (xs ++ [.slice a t.length c])
  | [], P, P', xs, h, hp, hq => by
    have : xs = [] := h
    subst this
    exact ⟨a, c, [], Q, rfl, ht, fun k hk => (hq k hk).1, rfl⟩
  | s :: ts, P, P', xs, h, hp, hq => by
    obtain ⟨b, d, ys, R, rfl, hs, hr, hrest⟩ := h
    exact ⟨b, d, ys ++ [.slice a t.length c], R, rfl, hs, fun k hk => hp k (hr k hk), LX.snoc ht hrest (fun k hk => ⟨hp k hk.1, hk.2⟩) (fun k hk => ⟨⟨(hq k hk).1, fun hR => (hq k hk).2 (hr k hR)⟩, fun h2 => (hq k hk).2 h2.1⟩)⟩
theorem own_turn {w w' : World} {B : Nat} {e : TypeId} {size n : Nat} {v : Value} {xs : List Value} (h : w.ownsRow B e size v n xs) (hk : ∀ k c, B ≤ k → w.heap[k]? = some (.cells c e (0, 0)) → w'.heap[k]? = some (.cells c e (0, 0))) : w'.ownsRow B e size v n xs := by
  refine ⟨h.1, ?_⟩
  rcases h.2 with h2 | ⟨g, cap, cur, e1, e2, e3, e4⟩
  · exact .inl h2
  · exact .inr ⟨g, cap, cur, e1, e2, hk g cur e2 e3, e4⟩
theorem own_typed {w : World} {B : Nat} {e : TypeId} {size n : Nat} {v : Value} {xs : List Value} (h : w.ownsRow B e size v n xs) {g : Nat} (hg : v.ownBlock = some g) : B ≤ g ∧ ∃ cur, w.heap[g]? = some (Obj.cells cur e (0, 0)) := by
  rcases h.2 with ⟨rfl, _⟩ | ⟨g', cap, cur, rfl, hB, hh, _⟩
  · cases hg
  · simp only [Value.ownBlock, Option.some.injEq] at hg
    subst hg
    exact ⟨hB, cur, hh⟩
theorem cell_typed {w w' : World} {g k : Nat} {e t : TypeId} {cur c : Array Value} {f f' : Nat × Nat} (h : w.heap[g]? = some (Obj.cells cur e f)) (h' : w.heap[k]? = some (Obj.cells c t f')) (hne : t ≠ e) : k ≠ g := by
  rintro rfl
  rw [h] at h'
  injection h' with h'
  injection h' with _ h2 _
  exact hne h2.symm

theorem one_set {w : World} {k : Nat} {v u : Value} {t : TypeId} (h : Blk w k #[v] t) : Blk (w.setCell ⟨k, 0, none⟩ u) k #[u] t := by
  unfold Blk at h ⊢
  simp only [World.setCell, Array.getElem?_modify, h]
  simp
theorem info22 : (Try.prog.info? 22).map (fun i => (i.zero, i.size, i.bytes)) = some (some (.slice none 0 0), 1, 24) := by kernel_rfl

/-- What holds between two rounds. -/
structure ILx (w : World) (pr : List (Tm × Value)) (W : World) : Prop where
  below : Below w.heap.size w W
  ex : ∃ v xs, Blk W (w.heap.size + 1) #[v] 54 ∧ W.ownsRow (w.heap.size + 3) 22 1 v (lexL (pr.map Prod.fst)).length xs ∧ LX W (fun k => w.heap.size + 3 ≤ k ∧ k < W.heap.size) (lexL (pr.map Prod.fst)) xs
  size : w.heap.size + 3 ≤ W.heap.size
theorem ILx.turn {w : World} {m : Nat} {pr : List (Tm × Value)} {A B : World} (h : ILx w pr A) (ht : Turn m A B) (hw : w.heap.size ≤ m) : ILx w pr B :=
  ⟨ht.below h.below hw, by
    obtain ⟨v, xs, h1, h2, h3⟩ := h.ex
    exact ⟨v, xs, ht.cells _ _ _ _ h1, own_turn h2 (fun k c _ e => ht.cells _ _ _ _ e), LX.weak (fun k hk => ⟨hk.1, Nat.lt_of_lt_of_le hk.2 ht.size⟩) (LX.map (fun k c _ e => ht.cells _ _ _ _ e) h3)⟩, Nat.le_trans h.size ht.size⟩
/-- The loop's variable, beside what has been collected. -/
structure BLx (w : World) (pr : List (Tm × Value)) (x : Tm × Value) (b : Nat) (W : World) : Prop where
  ex : ∃ a1 c1 a2 c2, x.2 = .agg #[.int .i64 x.1.kind, .string x.1.cons, .slice a1 x.1.text.length c1, .slice a2 x.1.kids.length c2] ∧ Blk W b #[.int .i64 x.1.kind, .string x.1.cons, .slice a1 x.1.text.length c1, .slice a2 x.1.kids.length c2] 25 ∧
    ∃ v xs P Q, Blk W (w.heap.size + 1) #[v] 54 ∧ W.ownsRow (w.heap.size + 3) 22 1 v (lexL (pr.map Prod.fst)).length xs ∧ LX W P (lexL (pr.map Prod.fst)) xs ∧ TBo Q W a1 x.1.text ∧ (∀ k, Q k → w.heap.size + 3 ≤ k ∧ k < W.heap.size ∧ ¬ P k) ∧ (∀ k, P k → w.heap.size + 3 ≤ k ∧ k < W.heap.size)
theorem BLx.turn {w : World} {m : Nat} {pr : List (Tm × Value)} {x : Tm × Value} {b : Nat} {A B : World} (h : BLx w pr x b A) (ht : Turn m A B) : BLx w pr x b B :=
  ⟨by
    obtain ⟨a1, c1, a2, c2, e, hb, v, xs, P, Q, h1, h2, h3, h4, h5, h6⟩ := h.ex
    exact ⟨a1, c1, a2, c2, e, ht.cells _ _ _ _ hb, v, xs, P, Q, ht.cells _ _ _ _ h1, own_turn h2 (fun k c _ e => ht.cells _ _ _ _ e), LX.map (fun k c _ e => ht.cells _ _ _ _ e) h3, h4.map (fun k c _ e => ht.cells _ _ _ _ e),
      fun k hk => ⟨(h5 k hk).1, Nat.lt_of_lt_of_le (h5 k hk).2.1 ht.size, (h5 k hk).2.2⟩, fun k hk => ⟨(h6 k hk).1, Nat.lt_of_lt_of_le (h6 k hk).2 ht.size⟩⟩⟩

/-- What Lexemes answers. -/
def LexP (w : World) (T : Tm) (e : Ending) (w' : World) : Prop :=
  ∃ v xs, e = .returned v ∧ Hid (w'.ownsRow w.heap.size 22 1 v (lexL (pre T)).length xs ∧ LX w' (fun k => w.heap.size ≤ k ∧ k < w'.heap.size) (lexL (pre T)) xs ∧ Below w.heap.size w w')

theorem ret31c {R : Ending → World → Prop} {a : Act} {W : World} {D : Nat} {v : Value} {n : Nat} (h2 : (a.tmps[2]?).getD undef = v) (hd : a.defers = [{ target := .collected D, args := #[] }]) (hK : W.heap[D]? = some (.deferred (some [])))
    (hR : R (.returned v) (W.putObj D (.deferred none))) : bodyPostM Fence.wide n Try.prog Try.f31 R .ret a W := by
  show LeavesInM Fence.wide n Try.prog Try.f31 a.tmps R a.defers .returning W
  rw [hd]
  refine ⟨by simp, .inl ⟨_, _, rfl, run_takeDeferred hK, ?_⟩⟩
  refine ⟨v, ?_, hR⟩
  simp [results, Try.results31, h2, go_sem]

set_option maxHeartbeats 4000000 in
set_option maxRecDepth 100000 in
theorem lexemes_any (T : Tm) (hc : cnt T ≤ 1000000) (v : Value) (w : World) (hT : RT w T v) : Calls Try.prog 31 #[v] w (LexP w T) := by
  obtain ⟨a1, c1, a2, c2, rfl, _, _, _, _⟩ := hT.open
  have HC := hide hc
  have HT := hide (fun W (h : Below w.heap.size w W) => RTo.keep (keep_below h) (RTo.low hT))
  clear hT hc
  obtain ⟨i0, hi, hz0, hz1, hz2⟩ := info_parts info22
  refine (callsIn_wide (n := 10)).1 ?_
  refine callsIn_of_wp_marks Try.func31 rfl trivial ?_ rfl
  simp only [Try.ntmps31, List.size_toArray, List.length_cons, List.length_nil, Nat.reduceAdd, Nat.reduceSub, Array.replicate_succ, Array.replicate_zero, List.push_toArray, List.append_toArray, List.nil_append, List.cons_append]
  refine wpIn_wide.2 ?_
  go_wp2_with fail
  refine (walk_any _ _ _ _ _).mono ?_
  rintro e w3 ⟨rfl, rfl⟩
  go_wp2_with fail
  have hwl : Below w.heap.size w (((w.alloc (.cells #[.int .i64 T.kind, .string T.cons, .slice a1 T.text.length c1, .slice a2 T.kids.length c2] 25)).alloc (.cells #[.slice none 0 0] 54)).alloc (.cells #[.int .i64 T.kind, .string T.cons, .slice a1 T.text.length c1, .slice a2 T.kids.length c2] 25)) := (((Below.refl _ w).alloc (Nat.le_refl _) _).alloc (by simp) _).alloc (by simp; omega) _
  have q3 : Blk (((w.alloc (.cells #[.int .i64 T.kind, .string T.cons, .slice a1 T.text.length c1, .slice a2 T.kids.length c2] 25)).alloc (.cells #[.slice none 0 0] 54)).alloc (.cells #[.int .i64 T.kind, .string T.cons, .slice a1 T.text.length c1, .slice a2 T.kids.length c2] 25)) (w.heap.size + 1) #[.slice none 0 0] 54 := by
    have := (Blk.new (w.alloc (.cells #[.int .i64 T.kind, .string T.cons, .slice a1 T.text.length c1, .slice a2 T.kids.length c2] 25)) #[.slice none 0 0] 54).alloc (.cells #[.int .i64 T.kind, .string T.cons, .slice a1 T.text.length c1, .slice a2 T.kids.length c2] 25)
    rw [World.size_alloc] at this
    exact this
  have q7 : Blk (((w.alloc (.cells #[.int .i64 T.kind, .string T.cons, .slice a1 T.text.length c1, .slice a2 T.kids.length c2] 25)).alloc (.cells #[.slice none 0 0] 54)).alloc (.cells #[.int .i64 T.kind, .string T.cons, .slice a1 T.text.length c1, .slice a2 T.kids.length c2] 25)) (w.heap.size + 1 + 1) #[.int .i64 T.kind, .string T.cons, .slice a1 T.text.length c1, .slice a2 T.kids.length c2] 25 := by
    have := Blk.new ((w.alloc (.cells #[.int .i64 T.kind, .string T.cons, .slice a1 T.text.length c1, .slice a2 T.kids.length c2] 25)).alloc (.cells #[.slice none 0 0] 54)) #[.int .i64 T.kind, .string T.cons, .slice a1 T.text.length c1, .slice a2 T.kids.length c2] 25
    rw [World.size_alloc, World.size_alloc] at this
    exact this
  have hsz : (((w.alloc (.cells #[.int .i64 T.kind, .string T.cons, .slice a1 T.text.length c1, .slice a2 T.kids.length c2] 25)).alloc (.cells #[.slice none 0 0] 54)).alloc (.cells #[.int .i64 T.kind, .string T.cons, .slice a1 T.text.length c1, .slice a2 T.kids.length c2] 25)).heap.size = w.heap.size + 3 := by simp
  generalize (((w.alloc (.cells #[.int .i64 T.kind, .string T.cons, .slice a1 T.text.length c1, .slice a2 T.kids.length c2] 25)).alloc (.cells #[.slice none 0 0] 54)).alloc (.cells #[.int .i64 T.kind, .string T.cons, .slice a1 T.text.length c1, .slice a2 T.kids.length c2] 25)) = wL at *
  refine wpIn_wide.1 (range_law1 (sb := 4) (n := 10) (by omega) (gf := 45) (lb := #[.pointer (some ⟨w.heap.size + 1 + 1, 0, none⟩)]) rfl (enters_of Try.func45 (by kernel_rfl) rfl)
    (walk_iter T (by have := HC.out; omega) (w.heap.size + 1 + 1) wL (fun k t => k = w.heap.size + 1 ∨ w.heap.size + 3 ≤ k ∧ t = 22) (fun k => k < w.heap.size) (fun k hk => ⟨fun t h => by omega, by omega⟩) q7 (HT.out _ hwl) (fun k => by
      by_cases h : k = w.heap.size + 1
      · right; omega
      · left; rintro (h2 | ⟨_, h2⟩)
        · exact h h2
        · cases h2))
    (ILx w) (fun _ _ _ => False) (fun s A B h ht => h.turn ht (by omega)) (fun c s A B h _ => h)
    ⟨hwl, ⟨_, [], q3, World.ownsRow_nil _ _ _ _, rfl⟩, by omega⟩ (BLx w) (fun pr x b A B h ht => h.turn ht) ?assign ?body ?done ?stop)
  case assign =>
    intro l pr x W0 W K hI0 hb0 hR hI hK
    obtain ⟨xt, xv⟩ := x
    obtain ⟨ord, htr⟩ := hR
    dsimp only at ord htr
    have htl := htr.low
    obtain ⟨kd, cs, tx, ks⟩ := xt
    rw [Tree] at htl
    obtain ⟨y1, z1, y2, z2, rfl, _, _, htb, _⟩ := htl
    obtain ⟨v0, xs0, g1, g2, g3⟩ := hI0.ex
    have hWs := hI.size
    have hb1 := (Below.refl W.heap.size W).alloc (Nat.le_refl _) (.cells #[.int .i64 kd, .string cs, .slice y1 tx.length z1, .slice y2 ks.length z2] 25)
    have hb2 : Below W0.heap.size W0 (W.alloc (.cells #[.int .i64 kd, .string cs, .slice y1 tx.length z1, .slice y2 ks.length z2] 25)) := hb0.trans (hb1.mono hb0.size)
    have h0s := hI0.size
    have HKK := hK W.heap.size (W.alloc (.cells #[.int .i64 kd, .string cs, .slice y1 tx.length z1, .slice y2 ks.length z2] 25)) (Wrote.alloc _ _ _) (hI.turn (Turn.alloc (w.heap.size + 3) _ _ (by omega)) (by omega))
      ⟨⟨_, _, _, _, rfl, Blk.new _ _ _, v0, xs0, (fun k => w.heap.size + 3 ≤ k ∧ k < W0.heap.size), (fun k => W0.heap.size ≤ k ∧ k < W.heap.size), g1.below hb2, own_below g2 hb2, LX.map (fun k c hk e => (hb2.block k hk.2).trans e) g3, htb.map (fun k c hk e => (hb1.block k hk.2).trans e),
        fun k hk => ⟨by omega, by have := hb1.size; omega, fun h => by omega⟩, fun k hk => ⟨hk.1, by have := hb2.size; omega⟩⟩⟩
    clear hK htr hI hI0 hb0 hb1 hb2 g1 g2 g3 htb
    simp only [List.setIfInBounds_toArray, List.set_cons_succ, List.set_cons_zero] at HKK ⊢
    gi_wp2_with fail
    exact HKK
  case body =>
    intro l pr x b W hI hB hlen
    obtain ⟨xt, xv⟩ := x
    obtain ⟨y1, z1, y2, z2, e, hbk, v0, xs0, P, Q, g1, g2, g3, g4, g5, g6⟩ := hB.ex
    dsimp only at e hbk g4
    subst e
    have hWs := hI.size
    have HI := hide hI
    have hll := lexL_len (pr.map Prod.fst)
    rw [List.length_map] at hll
    have hcc := HC.out
    have d0 := hbk.cell 0
    have d2 := hbk.cell 2
    have dl := hbk.lt
    have e3 := g1.cell 0
    have l3 := g1.lt
    obtain ⟨L, hL⟩ : ∃ L, lexL (pr.map Prod.fst) = L := ⟨_, rfl⟩
    have HL := hide hL
    rw [hL] at g2 g3 hll
    clear hI hB hL
    simp only [List.setIfInBounds_toArray, List.set_cons_succ, List.set_cons_zero]
    by_cases hk : xt.kind = 2
    · have hkb : (xt.kind == 2) = true := by simp [hk]
      have HYES := hide (lexL_yes (pr.map Prod.fst) xt hk)
      have HBE := hide hbk
      clear hk hbk
      have hown := g2
      have hrow : ∀ j, some j = v0.ownBlock → w.heap.size + 3 ≤ j := fun j hj => (own_typed hown hj.symm).1
      have HE3 := hide (show ∀ w1, (W.alloc (.cells #[.slice y1 xt.text.length z1] 22)).grownBy w1 v0.ownBlock → Blk w1 (w.heap.size + 1) #[v0] 54 from fun w1 hg => (g1.alloc _).grown hg (fun e => by have := hrow _ e; omega))
      have HG := hide (show ∀ w1 v', (W.alloc (.cells #[.slice y1 xt.text.length z1] 22)).grownBy w1 v0.ownBlock → w1.ownsRow (w.heap.size + 3) 22 1 v' (L.length + 1) (xs0 ++ [.slice y1 xt.text.length z1]) →
          Wrote (fun k t => k = w.heap.size + 1 ∨ w.heap.size + 3 ≤ k ∧ t = 22) W (w1.setCell ⟨w.heap.size + 1, 0, none⟩ v') ∧ ILx w (pr ++ [(xt, .agg #[.int .i64 xt.kind, .string xt.cons, .slice y1 xt.text.length z1, .slice y2 xt.kids.length z2])]) (w1.setCell ⟨w.heap.size + 1, 0, none⟩ v') from fun w1 v' hg ho => by
        have hbx := HE3.out w1 hg
        have hb1 := (Below.refl W.heap.size W).alloc (Nat.le_refl _) (.cells #[.slice y1 xt.text.length z1] 22)
        have hsa : (W.alloc (.cells #[.slice y1 xt.text.length z1] 22)).heap.size = W.heap.size + 1 := World.size_alloc _ _
        have hg1 := hg.size
        have htx : ∀ k c, w.heap.size + 3 ≤ k ∧ k < W.heap.size → W.heap[k]? = some (.cells c 5 (0, 0)) → (w1.setCell ⟨w.heap.size + 1, 0, none⟩ v').heap[k]? = some (.cells c 5 (0, 0)) := fun k c hk hh => by
          have h1 := (hb1.block k hk.2).trans hh
          refine (Below.heap_setCell _ _ _ _ (by show k ≠ w.heap.size + 1; omega)).trans ((hg.block k (by omega) (fun e => ?_)).trans h1)
          obtain ⟨_, cur, hcur⟩ := own_typed hown e.symm
          rw [hh] at hcur
          injection hcur with hcur
          injection hcur with _ h2 _
          cases h2
        have hwr : Wrote (fun k t => k = w.heap.size + 1 ∨ w.heap.size + 3 ≤ k ∧ t = 22) W (w1.setCell ⟨w.heap.size + 1, 0, none⟩ v') := by
          refine (Wrote.of_below hb1).trans ((Wrote.of_grown hg (fun k e => ?_)).trans (Wrote.set _ _ hbx (Or.inl rfl)))
          obtain ⟨h1, cur, hcur⟩ := own_typed hown e
          exact .inr ⟨cur, 22, _, (hb1.block k (Array.getElem?_eq_some_iff.1 hcur).1).trans hcur, .inr ⟨h1, rfl⟩⟩
        refine ⟨hwr, HI.out.below.trans (hwr.below (by omega) (fun k t h => by omega)), ?_, by rw [size_setCell]; omega⟩
        rw [List.map_append, List.map_cons, List.map_nil, HYES.out, HL.out]
        refine ⟨v', xs0 ++ [.slice y1 xt.text.length z1], one_set hbx, ?_, LX.snoc (c := z1) (g4.map (fun k c hk hh => htx k c ⟨(g5 k hk).1, (g5 k hk).2.1⟩ hh)) (LX.map (fun k c hk hh => htx k c (g6 k hk) hh) g3) (fun k hk => ⟨(g6 k hk).1, by rw [size_setCell]; have := (g6 k hk).2; omega⟩) (fun k hk => ⟨⟨(g5 k hk).1, by rw [size_setCell]; have := (g5 k hk).2.1; omega⟩, (g5 k hk).2.2⟩)⟩
        rw [List.length_append, List.length_singleton]
        exact own_turn ho (fun k c hk hh => (Below.heap_setCell _ _ _ _ (by show k ≠ w.heap.size + 1; omega)).trans hh))
      clear g1 g2 g3 g4 g5 g6
      gi_wp2_with (gi_at_builtin; refine wpListIn_append_own _ rfl _ _ 54 rfl (w.heap.size + 3) 22 i0 _ 1 24 Try.underlying54 hi hz0 hz1 hz2 rfl (by decide) _ _ _ rfl (hown.alloc _) ⟨W.heap.size, 0, none⟩ 1 1 _ rfl rfl (cell_one_new _ _ _) (by simp [Value.oneCell']) (by unfold maxLen; omega) (by omega) (by simp; omega) ?_; intro v' w1 hown' hgrow _; obtain ⟨g', cap', rfl⟩ := ownsRow_succ hown'; have HG1 := hide (HG.out _ _ hgrow hown'); have hbx := HE3.out _ hgrow; have p0 := hbx.cell 0; have p1 := hbx.free 0; have p2 := hbx.lt; clear hown' hgrow hbx)
      exact HG1.out
    · have hkb : (xt.kind == 2) = false := by simp [hk]
      have HNO := hide (lexL_no (pr.map Prod.fst) xt hk)
      clear hk hbk g1 g2 g3 g4 g5 g6
      gi_wp2_with fail
      refine ⟨Wrote.refl _ _, HI.out.below, ?_, HI.out.size⟩
      obtain ⟨v, xs, h⟩ := HI.out.ex
      rw [List.map_append, List.map_cons, List.map_nil, HNO.out]
      exact ⟨v, xs, h⟩
  case done =>
    intro D xs W hD hS hI hKD
    obtain ⟨v, ys, h1, h2, h3⟩ := hI.ex
    have hE := hide (show LexP w T (.returned v) (W.putObj D (.deferred none)) from by
      have ht : Turn w.heap.size W (W.putObj D (.deferred none)) := Turn.putObj _ (by omega) hKD rfl
      rw [hS] at h2 h3
      refine ⟨v, ys, rfl, ?_, LX.weak (fun k hk => ⟨by omega, Nat.lt_of_lt_of_le hk.2 ht.size⟩) (LX.map (fun k c _ e => ht.cells _ _ _ _ e) h3), ht.below hI.below (Nat.le_refl _)⟩
      have h4 := own_turn h2 (fun k c _ e => ht.cells _ _ _ _ e)
      exact ⟨h4.1, h4.2.imp id (fun ⟨g, cap, cur, e1, e2, e3⟩ => ⟨g, cap, cur, e1, by omega, e3⟩)⟩)
    have hx := h1.cell 0
    have hl := h1.lt
    clear h2 h3
    go_wp2_with fail
    exact ret31c rfl rfl hKD hE.out
  case stop =>
    intro D c pr W hD hS hI hKD
    exact hI.elim

/-! The reference's Lexemes. -/
/-- Slices that read as texts. -/
def RX (ok : Nat → Prop) (w : World) : List (List UInt8) → List Value → Prop
  | [], xs => xs = []
  | t :: ts, xs => ∃ a c ys, xs = .slice a t.length c :: ys ∧ RBo ok w a t ∧ RX ok w ts ys
theorem RX.keep {ok : Nat → Prop} {w w' : World} (hk : Keep ok w w') : ∀ {ts : List (List UInt8)} {xs : List Value}, RX ok w ts xs → RX ok w' ts xs
  | [], _, h => h
  | t :: ts, xs, h => by
    obtain ⟨a, c, ys, e, hb, hr⟩ := h
    exact ⟨a, c, ys, e, hb.keep hk, RX.keep hk hr⟩
theorem RX.snoc {ok : Nat → Prop} {w : World} {t : List UInt8} {a : Option Addr} {c : Nat} (hb : RBo ok w a t) : ∀ {ts : List (List UInt8)} {xs : List Value}, RX ok w ts xs → RX ok w (ts ++ [t]) (xs ++ [.slice a t.length c])
  | [], xs, h => by
    have : xs = [] := h
    subst this
    exact ⟨a, c, [], rfl, hb, rfl⟩
  | s :: ts, xs, h => by
    obtain ⟨b, d, ys, rfl, hs, hr⟩ := h
    exact ⟨b, d, _, rfl, hs, RX.snoc hb hr⟩
def RLexP (ok : Nat → Prop) (w : World) (T : Tm) (e : Ending) (w' : World) : Prop :=
  ∃ v xs, e = .returned v ∧ Hid (w'.ownsRow w.heap.size 22 1 v (lexL (pre T)).length xs ∧ RX ok w' (lexL (pre T)) xs ∧ Below w.heap.size w w')
structure RLexRel (ok : Nat → Prop) (w2 : World) (L : List Tm) (k : Nat) (v : Value) (wr : World) : Prop where
  below : Below w2.heap.size w2 wr
  own : ∃ xs, wr.ownsRow w2.heap.size 22 1 v (lexL (L.take k)).length xs ∧ RX ok wr (lexL (L.take k)) xs
  le : k ≤ L.length

set_option maxHeartbeats 2000000 in
set_option maxRecDepth 100000 in
theorem rlexemes_any (T : Tm) (hc : cnt T ≤ 1000000) (ok : Nat → Prop) (v : Value) (w : World) (hok : ∀ k, ok k → k < w.heap.size) (hT : RTo ok w T v) : Calls Try.prog 32 #[v] w (RLexP ok w T) := by
  obtain ⟨a1, c1, a2, c2, rfl, _, _, _, _⟩ := hT.open
  obtain ⟨i0, hi, hz0, hz1, hz2⟩ := info_parts info22
  have hb1 := (Below.refl w.heap.size w).alloc (Nat.le_refl _) (.cells #[.int .i64 T.kind, .string T.cons, .slice a1 T.text.length c1, .slice a2 T.kids.length c2] 25)
  have HX := hide (rwalk_any T hc ok _ _ (fun k hk => Nat.lt_of_lt_of_le (hok k hk) hb1.size) (RTo.keep (keep_below hb1) hT))
  have HB1 := hide hb1
  have HOK := hide hok
  have hcc := hc
  clear hT hb1 hok hc
  go_enter Try.func32, Try.ntmps32
  go_wp2_with fail
  refine HX.out.mono ?_
  rintro e w2 ⟨v2, xs2, rfl, hp⟩
  obtain ⟨g2, cap2, rfl, hg2, hg2l, hcap2, hnews, hxl⟩ := own_at hp.out.1 (by rw [pre_eq]; simp)
  have hlen : (pre T).length ≤ 1000000 := by rw [pre_len]; exact hcc
  have HW2 := hide (below_next HB1.out hp.out.2.2)
  obtain ⟨L, hL⟩ : ∃ L, pre T = L := ⟨_, rfl⟩
  have HL := hide hL
  have HRC := hide hp.out.2.1
  rw [hL] at HRC hlen hcap2 hxl ⊢
  have HNW := hide hnews
  clear hp hnews hL HX
  go_wp2_with fail
  go_loopg [3, 5] L.length (fun u v3 v5 wr => ∃ k : Nat, Hid (u = L.length - k) ∧ v5 = .int .i64 (k : Int) ∧ Hid (RLexRel ok w2 L k v3 wr))
  case atStart => exact ⟨0, rfl, rfl, ⟨Below.refl _ _, ⟨[], World.ownsRow_nil _ _ _ _, rfl⟩, Nat.zero_le _⟩⟩
  case round =>
    obtain ⟨k, hu, rfl, hr⟩ := hrel
    have hle := hr.out.le
    by_cases hlt : k < L.length
    · have hlti : (k : Int) < (L.length : Int) := by omega
      obtain ⟨v0, v1, v2, v3, x0, x1, x2, x3, hx⟩ := HRC.out.get k hlt
      obtain ⟨s1, t1, s2, t2, e, _, _, htb, _⟩ := hx.open
      simp only [Value.agg.injEq, Array.mk.injEq, List.cons.injEq, and_true] at e
      obtain ⟨rfl, rfl, rfl, rfl⟩ := e
      have hkp : ∀ j u, xs2[j]? = some u → wr.cell? ⟨g2, j, none⟩ = some u := fun j u hj => by
        have h1 := HNW.out j u hj
        rw [add_mk, Nat.zero_add] at h1
        exact (hr.out.below.cell (p := ⟨g2, j, none⟩) hg2l).trans h1
      have y0 := hkp _ _ x0
      have y2 := hkp _ _ x2
      have hgl := Nat.lt_of_lt_of_le hg2l hr.out.below.size
      have hll := lexL_len (L.take k)
      rw [List.length_take] at hll
      have hts : L.take (k + 1) = L.take k ++ [L[k]] := by rw [List.take_succ_eq_append_getElem hlt]
      by_cases hk : L[k].kind = 2
      · have hkb : (L[k].kind == 2) = true := by simp [hk]
        have HYES := hide (show lexL (L.take (k + 1)) = lexL (L.take k) ++ [L[k].text] by rw [hts]; exact lexL_yes _ _ hk)
        have HTB := hide htb
        obtain ⟨xs, hown, hrx⟩ := hr.out.own
        have HRX := hide hrx
        have hbase := hr.out.below.size
        clear hk x0 x1 x2 x3 hx hkp hts hrx htb
        go_wp2_with (at_builtin; refine wpList_append_own_at _ rfl _ _ 54 rfl w2.heap.size 22 i0 _ 1 24 Try.underlying54 hi hz0 hz1 hz2 rfl (by decide) _ _ _ rfl (World.ownsRow.alloc hown _) ⟨wr.heap.size, 0, none⟩ 1 1 _ rfl rfl (cell_one_new _ _ _) (by simp [Value.oneCell']) (by unfold maxLen; omega) (by omega) (by simp; omega) ?_; intro v' w4 hown' hgrow hnil hat; clear hnil hat; have HO4 := hide hown'; have HG4 := hide hgrow; clear hown' hgrow)
        go_roundg (L.length - (k + 1))
        case measure => rw [hu.out]; omega
        case rel =>
          have hb2 := hr.out.below.alloc hr.out.below.size (.cells #[.slice s1 L[k].text.length t1] 22)
          have hb4 := hb2.grown HG4.out hb2.size (fun j hj => (own_typed hown hj).1)
          refine ⟨k + 1, rfl, rfl, ⟨hb4, ⟨xs ++ [.slice s1 L[k].text.length t1], ?_, ?_⟩, hlt⟩⟩
          · rw [HYES.out, List.length_append, List.length_singleton]
            exact HO4.out
          · rw [HYES.out]
            have hw := HW2.out.size
            exact RX.snoc (HTB.out.keep ⟨hb4.size, fun j hj hl => hb4.block j hl⟩) (RX.keep ⟨by have := hb4.size; have := HG4.out.size; simp at this; omega, fun j hj hl => (hb4.block j (by have := HOK.out j hj; omega)).trans (hr.out.below.block j (by have := HOK.out j hj; omega)).symm⟩ HRX.out)
      · have hkb : (L[k].kind == 2) = false := by simp [hk]
        have HNO := hide (show lexL (L.take (k + 1)) = lexL (L.take k) by rw [hts]; exact lexL_no _ _ hk)
        clear hk x0 x1 x2 x3 hx hkp hts htb y2
        go_wp2_with fail
        go_roundg (L.length - (k + 1))
        case measure => rw [hu.out]; omega
        case rel =>
          obtain ⟨xs, hown, hrx⟩ := hr.out.own
          exact ⟨k + 1, rfl, rfl, ⟨hr.out.below, ⟨xs, by rw [HNO.out]; exact hown, by rw [HNO.out]; exact hrx⟩, hlt⟩⟩
    · obtain rfl : k = L.length := by omega
      go_wp2_with fail
      go_ret
      obtain ⟨xs, hown, hrx⟩ := hr.out.own
      rw [List.take_length] at hown hrx
      have hw := HW2.out.size
      refine ⟨_, xs, rfl, ?_⟩
      rw [HL.out]
      exact ⟨⟨hown.1, hown.2.imp id (fun ⟨g, cap, cur, e1, e2, e3⟩ => ⟨g, cap, cur, e1, by omega, e3⟩)⟩, hrx, HW2.out.trans (hr.out.below.mono hw)⟩
end Go.Proofs.Ytfndldfnlncabaa
