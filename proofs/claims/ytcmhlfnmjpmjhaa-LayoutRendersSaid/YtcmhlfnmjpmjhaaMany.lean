/- The walk of many's write. -/
import Derived.Test.YtcmhlfnmjpmjhaaStk
import Derived.Deep.QuietTactic
import Derived.BigQuiet
set_option linter.unusedVariables false
set_option linter.unusedSimpArgs false
set_option linter.unnecessarySimpa false
set_option linter.deprecated false
namespace Go.Proofs.Ytcmhlfnmjpmjhaa
open Go.RowKit Go.Shelf
attribute [local go_sem] Oper.semAt_some

theorem RJX.append {ok : Nat → Prop} {w : World} : ∀ {js ks : List Jb} {xs ys : List Value}, RJX ok w js xs → RJX ok w ks ys → RJX ok w (js ++ ks) (xs ++ ys)
  | [], ks, xs, ys, h, h2 => by
    have : xs = [] := h
    subst this
    exact h2
  | j :: js, ks, xs, ys, h, h2 => by
    obtain ⟨v, zs, rfl, h3, h4⟩ := h
    exact ⟨v, zs ++ ys, rfl, h3, RJX.append h4 h2⟩
theorem RJX.reverse {ok : Nat → Prop} {w : World} : ∀ {js : List Jb} {xs : List Value}, RJX ok w js xs → RJX ok w js.reverse xs.reverse
  | [], xs, h => by
    have : xs = [] := h
    subst this
    exact rfl
  | j :: js, xs, h => by
    obtain ⟨v, zs, rfl, h3, h4⟩ := h
    rw [List.reverse_cons, List.reverse_cons]
    exact RJX.append (RJX.reverse h4) ⟨v, [], rfl, h3, rfl⟩
/-- The values of a slice of jobs. -/
theorem RJK.vals {ok : Nat → Prop} {w : World} {a : Option Addr} {ks : List Jb} (h : RJK ok w a ks) : ∃ vs : List Value, vs.length = ks.length ∧ RJX ok w ks vs ∧ ∀ i (hi : i < vs.length), ∃ b o, a = some ⟨b, o, none⟩ ∧ ok b ∧ T64 w b ∧ w.cell? ⟨b, o + i, none⟩ = some vs[i] := by
  have h2 := h.2
  cases ks with
  | nil => exact ⟨[], rfl, rfl, fun i hi => by simp at hi⟩
  | cons k0 kr =>
    obtain ⟨b, o, e, hb, ht, hr⟩ := h2 (by simp)
    generalize k0 :: kr = ks at hr ⊢
    suffices ∀ (ks : List Jb) (o : Nat), RJs ok w b o ks → ∃ vs : List Value, vs.length = ks.length ∧ RJX ok w ks vs ∧ ∀ i (hi : i < vs.length), w.cell? ⟨b, o + i, none⟩ = some vs[i] by
      obtain ⟨vs, h3, h4, h5⟩ := this ks o hr
      exact ⟨vs, h3, h4, fun i hi => ⟨b, o, e, hb, ht, h5 i hi⟩⟩
    intro ks
    induction ks with
    | nil => intro o _; exact ⟨[], rfl, rfl, fun i hi => by simp at hi⟩
    | cons x xs ih =>
      intro o hr
      rw [RJs] at hr
      obtain ⟨⟨v, hv, hj⟩, hr⟩ := hr
      obtain ⟨vs, h3, h4, h5⟩ := ih (o + 1) hr
      refine ⟨v :: vs, by simp [h3], ⟨v, vs, rfl, hj, h4⟩, fun i hi => ?_⟩
      cases i with
      | zero => exact hv
      | succ i =>
        have := h5 i (by simpa using hi)
        rw [show o + (i + 1) = o + 1 + i by omega]
        exact this

/-- The law of a range over a function where the loop has two variables and lays the second in a slot. -/
theorem range_law2 {α : Type} {P : Program} {n : Nat} {g : Operand} {p1 p2 sb : Tmp} {assign body : Code} {Q : Exit → Act → World → Prop} {a : Act} {w : World}
    (h1 : 1 ≤ n) {gf : Nat} {lb : Array Value} (hg : a.eval g = .func (.func gf) #[] lb) (eg : ∀ args w, (callFunc gf args).run P w = .ok (.enter gf args) w)
    {e1 e2 : α → Value} {R : List α → α → World → World → Prop} {Wr : Nat → TypeId → Prop} {S Sp : List α → Prop} {N : Nat} (hseq : Iter P gf lb (fun x => #[e1 x, e2 x]) R Wr S Sp N w)
    (I : List α → World → Prop) (hI : ∀ s A B, I s A → Turn w.heap.size A B → I s B) (h0 : I [] w)
    (Bx : List α → α → Prop) (hBx : ∀ pre x W0 W, R pre x W0 W → Bx pre x)
    (hassign : ∀ (l : Nat) (x : α) (W : World) (K : Act → World → Prop), K { tmps := ((a.tmps.setIfInBounds p1 (e1 x)).setIfInBounds p2 (e2 x)).setIfInBounds sb (e2 x), defers := [] } W →
      assign.wpIn (Fence.wide.inRound l) (n - 1 - 1) P (Exit.then K (fun _ _ _ => False)) { tmps := (a.tmps.setIfInBounds p1 (e1 x)).setIfInBounds p2 (e2 x), defers := [] } W)
    (hbody : ∀ (l : Nat) (pre : List α) (x : α) (W : World), I pre W → Bx pre x → pre.length < N → body.wpIn (Fence.wide.inRound l) (n - 1 - 1) P (rangePost Wr I (fun _ _ _ => False) (pre ++ [x]) W) { tmps := ((a.tmps.setIfInBounds p1 (e1 x)).setIfInBounds p2 (e2 x)).setIfInBounds sb (e2 x), defers := [] } W)
    (hdone : ∀ (D : Nat) (xs : List α) (W : World), w.heap.size ≤ D → S xs → I xs W → W.heap[D]? = some (.deferred (some [])) → Q .normal { a with defers := { target := .collected D, args := #[] } :: a.defers } W) :
    (Code.rangeFunc g #[p1, p2] assign body).wpIn Fence.wide n P Q a w :=
  range_law h1 hg eg hseq (fun _ => rfl) I (fun _ _ _ => False) hI (fun _ _ _ _ h _ => h) h0 (fun pre x a' W => a' = { tmps := ((a.tmps.setIfInBounds p1 (e1 x)).setIfInBounds p2 (e2 x)).setIfInBounds sb (e2 x), defers := [] } ∧ Bx pre x)
    (fun pre x a' A B h ht => h)
    (fun l pre x W0 W K g1 g2 g3 g4 g5 => by
      have e : Array.foldl (fun (t : Array Value) (x : Tmp × Value) => match x with | (p, v) => t.setIfInBounds p v) a.tmps (#[p1, p2].zip #[e1 x, e2 x]) = (a.tmps.setIfInBounds p1 (e1 x)).setIfInBounds p2 (e2 x) := by simp
      rw [e]
      exact hassign l x W K (g5 _ W (Wrote.refl _ _) g4 ⟨rfl, hBx _ _ _ _ g3⟩))
    (fun l pre x a' W g1 g2 g3 => by obtain ⟨rfl, g4⟩ := g2; exact hbody l pre x W g1 g4 g3) hdone (fun D c pre W _ _ h _ => h.elim)

theorem KC.imp {Wr Wr' : Nat → TypeId → Prop} {A B : World} (h : KC Wr A B) (hi : ∀ k t, Wr k t → Wr' k t) : KC Wr' A B := ⟨h.size, fun k c t f hn e => h.block k c t f (fun h2 => hn (hi k t h2)) e⟩
theorem kc_below {Wr : Nat → TypeId → Prop} {A B : World} (h : Below A.heap.size A B) : KC Wr A B := ⟨h.size, fun k c t f _ e => (h.block k (Array.getElem?_eq_some_iff.1 e).1).trans e⟩
theorem WB.kc {N : Prop} {T : TypeId} {ex : List Value} {B b : Nat} {out : List UInt8} {w w' : World} {Wr : Nat → TypeId → Prop} (h : WB N T ex B b out w) (hk : KC Wr w w') (h5 : ∀ k, ¬ Wr k 5) (hb : ¬ Wr b T) : WB N T ex B b out w' := by
  obtain ⟨hB, p, v, hp, hbk, hown, hN⟩ := h
  refine ⟨hB, p, v, hp, hk.block b _ _ _ hb hbk, ⟨hown.1, ?_⟩, hN⟩
  rcases hown.2 with h0 | ⟨g, cap, cur, fz, e, hg, hh, hr⟩
  · exact .inl h0
  · exact .inr ⟨g, cap, cur, fz, e, hg, hk.block g _ _ _ (h5 g) hh, hr⟩

/-- The bytes behind, up to the next break. -/
def tailM (rest : List Jb) : Nat := (rcJL rest.reverse).1
/-- Does a group fit? -/
def fitM (ks : List Jb) (st : Wst) (rest : List Jb) : Bool := !hdJL ks && decide ((st.col : Int) + (flJL ks : Int) + (tailM rest : Int) ≤ st.wid)
/-- What many's write does. -/
def kidsM (ks : List Jb) (g : Bool) (st : Wst) (rest : List Jb) : List Jb := if g && fitM ks st rest then flatdL ks else ks
theorem flJL_rev (js : List Jb) : flJL js.reverse = flJL js := by
  induction js with
  | nil => rfl
  | cons j js ih => rw [List.reverse_cons, flJL_append, ih, flJL, flJL, flJL]; omega
theorem kidsM_len (ks : List Jb) (g : Bool) (st : Wst) (rest : List Jb) : (kidsM ks g st rest).length = ks.length := by
  unfold kidsM
  split
  · exact flatdL_len ks
  · rfl
def manyM (ks : List Jb) (g : Bool) (st : Wst) (rest : List Jb) : Wst := if g && !fitM ks st rest then { st with brk := st.brk + 1 } else st

/-- Blocks of jobs. -/
abbrev okS (B : Nat) (v : Value) (n : Nat) (k : Nat) : Prop := B ≤ k ∧ v.ownBlock ≠ some k ∧ k < n

/-- What many's write answers. -/
def ManyP (B wb : Nat) (ks : List Jb) (g : Bool) (st : Wst) (rest : List Jb) (w : World) (e : Ending) (w' : World) : Prop :=
  ∃ v xs, e = .returned v ∧ Hid (Stk B w' v xs ∧ RJX (okS B v w'.heap.size) w' (rest ++ (kidsM ks g st rest).reverse) xs ∧ W51 B wb (manyM ks g st rest) w' ∧ Below B w w')

/-- What stands ahead of the pushing. -/
structure WmCut (B wb : Nat) (st : Wst) (w wc : World) (v : Value) (xs : List Value) (rest ks : List Jb) (a : Option Addr) : Prop where
  below : Below B w wc
  kc : KC (fun k _ => k = wb) w wc
  wr : W51 B wb st wc
  box : Blk wc (w.heap.size + 1) #[v] 66
  kids : RJK (okS B v wc.heap.size) wc a ks
  stk : Stk B wc v xs
  jobs : RJX (okS B v w.heap.size) wc rest xs
  le : w.heap.size + 2 ≤ wc.heap.size

/-- What holds between two rounds of the pushing. -/
structure IPu (B : Nat) (w wL : World) (v : Value) (xs : List Value) (pr : List (Nat × Value)) (W : World) : Prop where
  below : Below B w W
  kc : KC (fun k t => k = w.heap.size + 1 ∧ t = 66 ∨ t = 64 ∧ (v.ownBlock = some k ∨ wL.heap.size ≤ k)) wL W
  ex : ∃ v' g, Blk W (w.heap.size + 1) #[v'] 66 ∧ Stk B W v' (xs ++ pr.map Prod.snd) ∧ v'.ownBlock = some g ∧ (v.ownBlock = some g ∨ wL.heap.size ≤ g)
theorem IPu.turn {B : Nat} {w wL : World} {v : Value} {xs : List Value} {pr : List (Nat × Value)} {A C : World} {m : Nat} (h : IPu B w wL v xs pr A) (ht : Turn m A C) (hm : B ≤ m) : IPu B w wL v xs pr C :=
  ⟨ht.below h.below hm, h.kc.trans ht.kc, by
    obtain ⟨v', g, h1, h2, h3⟩ := h.ex
    exact ⟨v', g, ht.cells _ _ _ _ h1, h2.block (fun g c _ e => ht.cells _ _ _ _ e), h3⟩⟩

theorem one_set {w : World} {k : Nat} {v u : Value} {t : TypeId} (h : Blk w k #[v] t) : Blk (w.setCell ⟨k, 0, none⟩ u) k #[u] t := by
  unfold Blk at h ⊢
  simp only [World.setCell, Array.getElem?_modify, h]
  simp
/-- One more is pushed. -/
theorem IPu.push {B : Nat} {w wL W w1 : World} {gS m capS : Nat} {xs : List Value} {pr : List (Nat × Value)} {x : Nat × Value} {v' v'' : Value} {g' : Nat} (h : IPu B w wL (.slice (some ⟨gS, 0, none⟩) m capS) xs pr W) (hB : B ≤ w.heap.size) (hgS : B ≤ gS)
    (hwL : w.heap.size ≤ wL.heap.size) (h1 : Blk W (w.heap.size + 1) #[v'] 66) (h2 : Stk B W v' (xs ++ pr.map Prod.snd)) (h3 : v'.ownBlock = some g') (h4 : gS = g' ∨ wL.heap.size ≤ g') (hp : Push B (W.alloc (.cells #[x.2] 64)) v' (xs ++ pr.map Prod.snd) x.2 v'' w1) :
    Blk w1 (w.heap.size + 1) #[v'] 66 ∧ Wrote (fun k t => k = w.heap.size + 1 ∧ t = 66 ∨ t = 64 ∧ (gS = k ∨ wL.heap.size ≤ k)) W (w1.setCell ⟨w.heap.size + 1, 0, none⟩ v'') ∧ IPu B w wL (.slice (some ⟨gS, 0, none⟩) m capS) xs (pr ++ [x]) (w1.setCell ⟨w.heap.size + 1, 0, none⟩ v'') := by
  obtain ⟨g2, e2, hg2, cur, hcur⟩ := h2.own
  rw [h3] at e2
  cases e2
  have hlt := (Array.getElem?_eq_some_iff.1 hcur).1
  have ha := Below.heap_alloc W (.cells #[x.2] 64) g' hlt
  have hne : some (w.heap.size + 1) ≠ v'.ownBlock := by
    rw [h3]
    intro e
    cases e
    have h5 : W.heap[w.heap.size + 1]? = some (.cells #[v'] 66) := h1
    rw [hcur] at h5
    injection h5 with h5
    injection h5 with _ h6 _
    cases h6
  have hb1 : Blk w1 (w.heap.size + 1) #[v'] 66 := (h1.alloc _).grown hp.grown hne
  obtain ⟨g3, e3, h5⟩ := hp.at'
  obtain ⟨g4, e4, hg4, c4, hc4⟩ := hp.stk.own
  rw [e3] at e4
  cases e4
  have hne3 : g3 ≠ w.heap.size + 1 := by
    rintro rfl
    have h6 : w1.heap[w.heap.size + 1]? = some (.cells #[v'] 66) := hb1
    rw [hc4] at h6
    injection h6 with h6
    injection h6 with _ h7 _
    cases h7
  have hWs := h.kc.size
  have hwr : Wrote (fun k t => k = w.heap.size + 1 ∧ t = 66 ∨ t = 64 ∧ (gS = k ∨ wL.heap.size ≤ k)) W (w1.setCell ⟨w.heap.size + 1, 0, none⟩ v'') := by
    refine (Wrote.alloc _ _ _).trans ((Wrote.of_grown hp.grown (fun k e => ?_)).trans (Wrote.set _ _ hb1 (.inl ⟨rfl, rfl⟩)))
    rw [h3] at e
    cases e
    exact .inr ⟨cur, 64, _, ha.trans hcur, .inr ⟨rfl, h4⟩⟩
  refine ⟨hb1, hwr, h.below.trans (hwr.below (Nat.le_trans hB (Nat.le_trans hwL hWs)) (fun k t hk => by rcases hk with ⟨rfl, _⟩ | ⟨_, rfl | hk⟩ <;> omega)), h.kc.trans ?_, v'', g3, one_set hb1, ?_, e3, ?_⟩
  · refine KC.trans hwr.kc (KC.refl _ _) |> fun hh => ⟨hh.size, fun k c t f hn e => hh.block k c t f (fun h2 => hn (h2.imp id (fun h3 => ⟨h3.1, h3.2.imp (fun e => by cases e; rfl) id⟩))) e⟩
  · rw [List.map_append, ← List.append_assoc]
    exact hp.stk.block (fun g c hg hc => by
      rw [e3] at hg
      cases hg
      exact (Below.heap_setCell _ _ _ _ (by show g3 ≠ w.heap.size + 1; exact hne3)).trans hc)
  · rw [World.size_alloc, h3] at h5
    rcases h5 with h5 | h5
    · cases h5
      exact h4.imp (fun e => by rw [e]; rfl) id
    · exact .inr (by omega)

theorem below_drewN {B : Nat} {w W : World} (h : Below B w W) (n : Nat) : Below B w (W.drewN n) := ⟨h.os, h.tape, h.output, h.size, h.block⟩
theorem WmCut.set {B wb i : Nat} {st st' : Wst} {w W : World} {v u : Value} {xs : List Value} {rest ks : List Jb} {a : Option Addr} (h : WmCut B wb st w W v xs rest ks a) (hne : wb ≠ w.heap.size + 1) (h' : W51 B wb st' (W.setCell ⟨wb, i, none⟩ u)) :
    WmCut B wb st' w (W.setCell ⟨wb, i, none⟩ u) v xs rest ks a := by
  have h64 : ∀ b c, W.heap[b]? = some (Obj.cells c 64 (0, 0)) → (W.setCell ⟨wb, i, none⟩ u).heap[b]? = some (Obj.cells c 64 (0, 0)) := fun b c e => by
    refine (Below.heap_setCell _ _ _ _ ?_).trans e
    show b ≠ wb
    rintro rfl
    obtain ⟨_, p, v, _, hbk, _⟩ := h.wr
    rw [e] at hbk
    injection hbk with hbk
    injection hbk with _ h2 _
    cases h2
  refine ⟨h.below.setCell (p := ⟨wb, i, none⟩) h.wr.ge _, h.kc.trans ⟨by rw [size_setCell]; exact Nat.le_refl _, fun k c t f hn e => (Below.heap_setCell _ _ _ _ hn).trans e⟩, h', (Below.heap_setCell _ _ _ _ (by show w.heap.size + 1 ≠ wb; omega)).trans h.box, ?_, ?_, ?_, by rw [size_setCell]; exact h.le⟩
  · exact RJK.map (by rw [size_setCell]; exact Nat.le_refl _) (fun k hk => by rw [size_setCell]; exact hk) (fun b c hb e => h64 b c e) h.kids
  · exact h.stk.block (fun g c _ e => h64 g c e)
  · exact RJX.map (by rw [size_setCell]; exact Nat.le_refl _) (fun k hk => hk) (fun b c hb e => h64 b c e) h.jobs

theorem ret79 {R : Ending → World → Prop} {a : Act} {W : World} {D : Nat} {v : Value} {n : Nat} (h2 : (a.tmps[6]?).getD undef = v) (hd : a.defers = [{ target := .collected D, args := #[] }]) (hK : W.heap[D]? = some (.deferred (some [])))
    (hR : R (.returned v) (W.putObj D (.deferred none))) : bodyPostM Fence.wide n Try.prog Try.f79 R .ret a W := by
  show LeavesInM Fence.wide n Try.prog Try.f79 a.tmps R a.defers .returning W
  rw [hd]
  refine ⟨by simp, .inl ⟨_, _, rfl, run_takeDeferred hK, ?_⟩⟩
  refine ⟨v, ?_, hR⟩
  simp [results, Try.results79, h2, go_sem]

set_option maxHeartbeats 4000000 in
set_option maxRecDepth 100000 in
theorem write_many (B wb : Nat) (ks : List Jb) (g : Bool) (st : Wst) (rest : List Jb) (a : Option Addr) (c : Nat) (v : Value) (xs : List Value) (w : World) (hB : B ≤ w.heap.size) (hW : W51 B wb st w) (hS : Stk B w v xs) (hR : RJX (okS B v w.heap.size) w rest xs)
    (hK : RJK (okS B v w.heap.size) w a ks) (hf : flJL rest + flJL ks ≤ 1000000) (hc : cntJL rest + cntJL ks ≤ 1000000) (hcol : st.col ≤ 65536) (hwid : st.wid ≤ 9223372036854775807) (hbrk : st.brk ≤ 1000000) :
    Calls Try.prog 79 #[.agg #[.slice a ks.length c, .bool g], .pointer (some ⟨wb, 0, none⟩), v] w (ManyP B wb ks g st rest w) := by
  have hrl := hide hR.len
  have hrc := len_cntJL rest
  have hkl := hK.1
  have hklc := len_cntJL ks
  obtain ⟨gS, capS, rfl, hcap, hgl, hcl⟩ := hS.cell
  have hwb := hide hW.lt
  have HS := hide hS
  have hB0 := hide hB
  have HR := hide hR
  have HK := hide hK
  have HW := hide hW
  have HCL := hide hcl
  have hlx : xs.length ≤ 1000000 := by have := hrl.out; omega
  clear hS hR hK hW hcl
  refine (callsIn_wide (n := 10)).1 ?_
  refine callsIn_of_wp_marks Try.func79 rfl trivial ?_ rfl
  simp only [Try.ntmps79, List.size_toArray, List.length_cons, List.length_nil, Nat.reduceAdd, Nat.reduceSub, Array.replicate_succ, Array.replicate_zero, List.push_toArray, List.append_toArray, List.nil_append, List.cons_append]
  refine wpIn_wide.2 ?_
  go_upto_if 19 with fail
  go_cut [7] from 7 to 70 (fun v7 wc => ∃ (a' : Option Addr) (c' : Nat), v7 = .slice a' (kidsM ks g st rest).length c' ∧ Hid (WmCut B wb (manyM ks g st rest) w wc (.slice (some ⟨gS, 0, none⟩) xs.length capS) xs rest (kidsM ks g st rest) a'))
  case first =>
    have hbA : Below w.heap.size w ((w.alloc (.cells #[.slice a ks.length c, .bool g] 81)).alloc (.cells #[.slice (some ⟨gS, 0, none⟩) xs.length capS] 66)) := ((Below.refl _ w).alloc (Nat.le_refl _) _).alloc (by simp) _
    have HA := hide hbA
    have hA2 : ((w.alloc (.cells #[.slice a ks.length c, .bool g] 81)).alloc (.cells #[.slice (some ⟨gS, 0, none⟩) xs.length capS] 66)).heap.size = w.heap.size + 2 := by simp
    have HA2 := hide hA2
    have hbx : Blk ((w.alloc (.cells #[.slice a ks.length c, .bool g] 81)).alloc (.cells #[.slice (some ⟨gS, 0, none⟩) xs.length capS] 66)) (w.heap.size + 1) #[.slice (some ⟨gS, 0, none⟩) xs.length capS] 66 := by
      have := Blk.new (w.alloc (.cells #[.slice a ks.length c, .bool g] 81)) #[.slice (some ⟨gS, 0, none⟩) xs.length capS] 66
      rw [World.size_alloc] at this
      exact this
    have HBX := hide hbx
    -- whatever lies behind is kept by what only makes memory
    have HC := hide (show ∀ W, Below w.heap.size w W → Blk W (w.heap.size + 1) #[.slice (some ⟨gS, 0, none⟩) xs.length capS] 66 → w.heap.size + 2 ≤ W.heap.size → ∀ ks' a', RJK (okS B (.slice (some ⟨gS, 0, none⟩) xs.length capS) W.heap.size) W a' ks' → WmCut B wb st w W (.slice (some ⟨gS, 0, none⟩) xs.length capS) xs rest ks' a' from fun W h1 h2 h3 ks' a' h4 =>
      ⟨h1.mono hB0.out, kc_below h1, HW.out.others (by decide) h1, h2, h4, HS.out.block (fun g c _ e => (h1.block g (Array.getElem?_eq_some_iff.1 e).1).trans e), RJX.map h1.size (fun k h => h) (fun b cc hb e => (h1.block b hb.2.2).trans e) HR.out, h3⟩)
    clear hbA hA2 hbx
    cases g with
    | false =>
      have HK0 := hide (show kidsM ks false st rest = ks ∧ manyM ks false st rest = st from ⟨rfl, rfl⟩)
      go_wp2_with fail
      go_meet
      refine ⟨a, c, ?_, ?_⟩
      · rw [HK0.out.1]
      · rw [HK0.out.1, HK0.out.2]
        exact HC.out _ HA.out HBX.out (by rw [HA2.out]; exact Nat.le_refl _) ks a (RJK.map HA.out.size (fun k h => ⟨h.1, h.2.1, Nat.lt_of_lt_of_le h.2.2 HA.out.size⟩) (fun b cc hb e => (HA.out.block b hb.2.2).trans e) HK.out)
    | true =>
      have HFC := hide (flat_many ks true (fun j _ => flat_any (okS B (.slice (some ⟨gS, 0, none⟩) xs.length capS) w.heap.size) j) (by omega) (by omega) a c _ (fun k h => Nat.lt_of_lt_of_le h.2.2 HA.out.size) (RJK.map HA.out.size (fun k h => h) (fun b cc hb e => (HA.out.block b hb.2.2).trans e) HK.out))
      go_wp2_with fail
      refine HFC.out.mono ?_
      rintro e w1 ⟨rfl, hb1⟩
      have HB1 := hide (below_next HA.out hb1)
      have HX1 := hide (HBX.out.below hb1)
      have HS1 := hide (show w.heap.size + 2 ≤ w1.heap.size by have := hb1.size; have := HA2.out; omega)
      have e5 := HX1.out.cell 0
      have l5 := HX1.out.lt
      clear hb1 HFC HA HBX HA2
      go_upto_block 0 with fail
      go_cut [10] from 10 to 44 (fun v10 wc => v10 = .int .i64 (tailM rest : Int) ∧ Hid (Below w.heap.size w wc ∧ Blk wc (w.heap.size + 1) #[.slice (some ⟨gS, 0, none⟩) xs.length capS] 66 ∧ w.heap.size + 2 ≤ wc.heap.size))
      case first =>
        go_wp2_with fail
        go_loopg [10, 11] rest.length (fun u v10 v11 wr => ∃ k n : Nat, Hid (u = rest.length - k) ∧ v11 = .int .i64 ((xs.length : Int) - 1 - (k : Int)) ∧ v10 = .int .i64 (n : Int) ∧ Hid (RcRel w1 rest.reverse (rcJL rest.reverse) k n wr))
        case atStart => exact ⟨0, 0, rfl, by simp, rfl, ⟨Below.refl _ _, Nat.zero_le _, by rw [List.drop_zero, flJL_rev]; omega, by rw [List.drop_zero]; split <;> simp [*] <;> (ext <;> simp [*])⟩⟩
        case round =>
          obtain ⟨k, n, hu, rfl, rfl, hr⟩ := hrel
          have hle := hr.out.le
          rw [List.length_reverse] at hle
          have hbelow := hr.out.below
          have HBB := hide (HB1.out.trans (hbelow.mono HB1.out.size))
          have hbx := HX1.out.below hbelow
          have e5 := hbx.cell 0
          have l5 := hbx.lt
          have HEND := hide (show Below w.heap.size w wr ∧ Blk wr (w.heap.size + 1) #[.slice (some ⟨gS, 0, none⟩) xs.length capS] 66 ∧ w.heap.size + 2 ≤ wr.heap.size from ⟨HBB.out, hbx, Nat.le_trans HS1.out hbelow.size⟩)
          by_cases hlt : k < rest.length
          · have hxl := hrl.out
            obtain ⟨i, hi⟩ : ∃ i, rest.length - 1 - k = i := ⟨_, rfl⟩
            have hii : (xs.length : Int) - 1 - (k : Int) = (i : Int) := by omega
            have hil : i < xs.length := by omega
            have hil2 : i < rest.length := by omega
            have hili : (i : Int) < (xs.length : Int) := by omega
            have hi0 : (0 : Int) ≤ (i : Int) := by omega
            rw [hii]
            have hjk : rest.reverse[k]? = some rest[i] := by rw [List.getElem?_reverse hlt, hi, List.getElem?_eq_getElem hil2]
            have hkr : k < rest.reverse.length := by rw [List.length_reverse]; exact hlt
            have hjk2 : rest.reverse[k] = rest[i] := by rw [List.getElem?_eq_getElem hkr] at hjk; injection hjk
            have e0 := HCL.out i hil
            obtain ⟨vi, hvi, hji⟩ := HR.out.get i hil2
            rw [List.getElem?_eq_getElem hil] at hvi
            injection hvi with hvi
            rw [hvi] at e0
            have e0' := (HBB.out.cell (p := ⟨gS, i, none⟩) hgl).trans e0
            have hgl' := Nat.lt_of_lt_of_le hgl HBB.out.size
            have hfk := flJL_mem (List.getElem_mem hil2)
            have hck := cntJL_mem (List.getElem_mem hil2)
            obtain ⟨T, K, u0, rfl, hm, hcf, hcl2⟩ := reach_any (okS B (.slice (some ⟨gS, 0, none⟩) xs.length capS) w.heap.size) rest[i] (by omega) (by omega) vi wr (fun j hj => Nat.lt_of_lt_of_le hj.2.2 HBB.out.size) (hji.step HBB.out (fun j hj => hj.2.2))
            have HCL2 := hide hcl2
            have HBL := hide hbelow
            have hsum := hr.out.sum
            have heq := hr.out.eq
            rw [List.drop_eq_getElem_cons hkr, hjk2, flJL] at hsum
            rw [List.drop_eq_getElem_cons hkr, hjk2, rcJL] at heq
            have hrf := rc_fl rest[i]
            obtain ⟨m, hm1⟩ : ∃ m, (rcJ rest[i]).1 = m := ⟨_, rfl⟩
            rw [hm1] at hrf heq HCL2
            have HSUM := hide hsum
            have hmn : (n : Int) + (m : Int) ≤ 1000000 := by omega
            have HM := hide hrf
            have HKK := hide hle
            have HLT := hide hlt
            have HII := hide hii
            clear e0 hvi hji hcl2 hbelow hm1 hsum hrf hjk hjk2 hii hi hxl hle hbx HEND hlt
            cases hb : (rcJ rest[i]).2 with
            | true =>
              rw [hb] at heq HCL2
              have HEQ := hide heq
              clear heq hb
              go_wp2_with fail
              refine HCL2.out.mono ?_
              rintro e w2 ⟨rfl, h2⟩
              have HB2 := hide (HBL.out.trans (h2.mono HBL.out.size))
              clear h2
              go_wp2_with fail
              go_roundg (rest.length - (k + 1))
              case measure => rw [hu.out]; have := HLT.out; omega
              case rel =>
                have hii := HII.out
                refine ⟨k + 1, n + m, rfl, by rw [show (xs.length : Int) - 1 - ((k + 1 : Nat) : Int) = (i : Int) - 1 by omega], by go_num, ⟨HB2.out, by rw [List.length_reverse]; exact HLT.out, by have := HSUM.out; have := HM.out; omega, ?_⟩⟩
                rw [← HEQ.out]
                simp only [if_true]
                split <;> simp [*, Nat.add_assoc]
            | false =>
              rw [hb] at heq HCL2
              have HEQ := hide heq
              clear heq hb
              go_wp2_with fail
              refine HCL2.out.mono ?_
              rintro e w2 ⟨rfl, h2⟩
              have HB2 := hide (HBL.out.trans (h2.mono HBL.out.size))
              clear h2
              go_wp2_with fail
              go_meet
              have h := HEQ.out
              simp only [Bool.false_eq_true, if_false] at h
              refine ⟨?_, HB1.out.trans (HB2.out.mono HB1.out.size), HX1.out.below HB2.out, Nat.le_trans HS1.out HB2.out.size⟩
              rw [tailM, ← h]
              go_num
          · have hke : k = rest.length := by omega
            subst hke
            have hneg : ¬ ((0 : Int) ≤ (xs.length : Int) - 1 - (rest.length : Int)) := by have := hrl.out; omega
            have heq := hr.out.eq
            rw [List.drop_of_length_le (by rw [List.length_reverse]; exact Nat.le_refl _), rcJL] at heq
            simp only [if_true, Nat.add_zero] at heq
            have HQ := hide heq
            clear heq
            go_wp2_with fail
            go_meet
            exact ⟨by rw [tailM, ← HQ.out], HEND.out⟩
      case rest =>
        obtain ⟨rfl, hcc⟩ := hcut
        have w51 := HW.out.others (by decide) hcc.out.1
        have W51' := hide w51
        have c2 : wc.cell? ⟨wb, 2, none⟩ = some (.int .i64 (st.col : Int)) := w51.cell 0
        have c3 : wc.cell? ⟨wb, 3, none⟩ = some (.int .i64 st.wid) := w51.cell 1
        have c4 : wc.cell? ⟨wb, 4, none⟩ = some (.int .i64 (st.brk : Int)) := w51.cell 2
        have f4 := w51.free 4
        have l4 := w51.lt
        have htl : tailM rest ≤ flJL rest := by unfold tailM; rw [← flJL_rev]; exact rc_flL _
        have HTL := hide htl
        have hkm : ∀ (b : Bool), fitM ks st rest = b → (kidsM ks true st rest = (if b then flatdL ks else ks)) ∧ (manyM ks true st rest = (if b then st else { st with brk := st.brk + 1 })) := fun b hb => by
          unfold kidsM manyM
          rw [hb]
          cases b <;> exact ⟨rfl, rfl⟩
        have HKM := hide hkm
        have HNB := hide (show ∀ nq, WmCut B wb { st with brk := st.brk + 1 } w ((wc.drewN nq).setCell ⟨wb, 4, none⟩ (.int .i64 ((st.brk : Int) + 1))) (.slice (some ⟨gS, 0, none⟩) xs.length capS) xs rest ks a from fun nq =>
          (HC.out (wc.drewN nq) (below_drewN hcc.out.1 nq) hcc.out.2.1 hcc.out.2.2 ks a (RJK.map hcc.out.1.size (fun k h => ⟨h.1, h.2.1, Nat.lt_of_lt_of_le h.2.2 hcc.out.1.size⟩) (fun b cc hb e => (hcc.out.1.block b hb.2.2).trans e) HK.out)).set (by have := hwb.out; omega) (by
            have h1 : WB True 51 [.int .i64 (st.col : Int), .int .i64 st.wid, .int .i64 ((st.brk : Int) + 1), .bool st.long] B wb st.out ((wc.drewN nq).setCell ⟨wb, 4, none⟩ (.int .i64 ((st.brk : Int) + 1))) := WB.setex (by decide) (w := wc.drewN nq) ⟨w51.ge, w51.ex'⟩ 2 _
            rw [show (st.brk : Int) + 1 = ((st.brk + 1 : Nat) : Int) by omega] at h1 ⊢
            exact h1))
        clear w51 hkm
        cases hh : hdJL ks with
        | true =>
          have HF := hide (HKM.out false (by unfold fitM; rw [hh]; rfl))
          go_upto_region 11 with fail
          go_quiet (fail)
          go_wp2_with fail
          go_meet
          refine ⟨a, c, ?_, ?_⟩
          · rw [HF.out.1]; rfl
          · rw [HF.out.1, HF.out.2]; exact HNB.out _
        | false =>
          by_cases hle : (st.col : Int) + (flJL ks : Int) + (tailM rest : Int) ≤ st.wid
          · have HF := hide (HKM.out true (by unfold fitM; rw [hh]; simpa using hle))
            have hdec : decide ((st.col : Int) + (flJL ks : Int) + (tailM rest : Int) ≤ st.wid) = true := by simpa using hle
            go_upto_region 11 with fail
            have HFL := hide (fun W ok h1 h2 => flattened_all ks (by omega) ok a c W h1 h2)
            go_quiet (fail)
            go_wp2_with fail
            refine (HFL.out (wc.drewN nq) (okS B (.slice (some ⟨gS, 0, none⟩) xs.length capS) w.heap.size) (fun k h => Nat.lt_of_lt_of_le h.2.2 hcc.out.1.size) (RJK.map (w' := wc.drewN nq) hcc.out.1.size (fun k h => h) (fun b cc hb e => (hcc.out.1.block b hb.2.2).trans e) HK.out)).mono ?_
            rintro e w2 ⟨a2, k2, rfl, hrk, hb2⟩
            have HB2 := hide (below_drewN hcc.out.1 nq)
            have HRK := hide hrk.out
            have HBK := hide hb2.out
            clear hrk hb2
            go_wp2_with fail
            go_meet
            refine ⟨a2, k2, ?_, ?_⟩
            · rw [HF.out.1, if_pos trivial, flatdL_len]
            · rw [HF.out.1, HF.out.2, if_pos trivial, if_pos trivial]
              have hsz : w.heap.size + 2 ≤ (wc.drewN nq).heap.size := hcc.out.2.2
              have hwk : ∀ k, (wc.drewN nq).heap.size ≤ k → w.heap.size ≤ k := fun k h => Nat.le_trans (Nat.le_trans (Nat.le_add_right _ 2) hsz) h
              have hbx2 : Blk (wc.drewN nq) (w.heap.size + 1) #[.slice (some ⟨gS, 0, none⟩) xs.length capS] 66 := hcc.out.2.1
              exact HC.out w2 (below_next HB2.out HBK.out) (hbx2.below HBK.out) (Nat.le_trans hsz HBK.out.size) _ _ (RJK.map (Nat.le_refl _) (fun k hk => ⟨Nat.le_trans hB0.out (hwk k hk.1), fun e => by cases e; exact absurd hgl (Nat.not_lt.2 (hwk _ hk.1)), hk.2⟩) (fun _ _ _ e => e) HRK.out)
          · have HF := hide (HKM.out false (by unfold fitM; rw [hh]; simpa using hle))
            have hdec : decide ((st.col : Int) + (flJL ks : Int) + (tailM rest : Int) ≤ st.wid) = false := by simpa using hle
            go_upto_region 11 with fail
            go_quiet (fail)
            go_wp2_with fail
            go_meet
            refine ⟨a, c, ?_, ?_⟩
            · rw [HF.out.1]; rfl
            · rw [HF.out.1, HF.out.2]; exact HNB.out _
  case rest =>
    obtain ⟨a', c', rfl, hcut⟩ := hcut
    clear HS HR HK HW HCL
    obtain ⟨vs, hvl, hvx, hvc⟩ := hcut.out.kids.vals
    have HX := hide hvx
    have hifc := hide (show ∀ u ∈ vs, ∃ T x, u = .iface T x from fun u hu => by
      obtain ⟨i, hi, rfl⟩ := List.getElem_of_mem hu
      obtain ⟨v, hv, hj⟩ := hvx.get i (by omega)
      rw [List.getElem?_eq_getElem hi] at hv
      injection hv with hv
      obtain ⟨T, u, e⟩ := hj.iface
      exact ⟨T, u, hv.trans e⟩)
    obtain ⟨kn, hkn⟩ : ∃ kn, (kidsM ks g st rest).length = kn := ⟨_, rfl⟩
    rw [hkn]
    have HVN := hide (show kn = vs.length by omega)
    have hkv := hide (show rest.length + vs.length ≤ 1000000 by have := kidsM_len ks g st rest; omega)
    clear hkn hvl
    go_wp2_with (go_at_call 81; refine (back_any _ _ _ _).mono ?_; rintro e w3 ⟨rfl, hw3⟩; rw [hw3])
    obtain ⟨wL, hL⟩ : ∃ wL, wc.alloc (.cells #[.slice a' kn c'] 66) = wL := ⟨_, rfl⟩
    rw [hL]
    have hLb : Below wc.heap.size wc wL := by rw [← hL]; exact (Below.refl _ _).alloc (Nat.le_refl _) _
    have hLx : Blk wL wc.heap.size #[.slice a' vs.length c'] 66 := by rw [← hL, HVN.out]; exact Blk.new _ _ _
    have hLs := hide (show wL.heap.size = wc.heap.size + 1 by rw [← hL]; exact World.size_alloc _ _)
    obtain ⟨gS', hgS, hgS1, hg64⟩ := hcut.out.stk.own
    cases hgS
    have hgS0 := hide hgS1
    clear hgS1
    have hIt := back_iter wc.heap.size a' c' vs wL (fun k t => k = w.heap.size + 1 ∧ t = 66 ∨ t = 64 ∧ (gS = k ∨ wL.heap.size ≤ k)) (by have := hkv.out; omega) hLx (by have := hcut.out.le; rintro (⟨h, _⟩ | ⟨h, _⟩); omega; cases h) (fun i hi => by
      obtain ⟨b, o, e, hb, ht, hcc⟩ := hvc i hi
      have hl := ht.lt
      have hl2 := hLs.out
      have hb2 := hb.2.1
      exact ⟨b, o, e, fun t => by
        rintro (⟨rfl, _⟩ | ⟨_, rfl | h⟩)
        · obtain ⟨cx, hcx⟩ := ht
          have hbx : wc.heap[w.heap.size + 1]? = some (.cells _ 66) := hcut.out.box
          rw [hcx] at hbx
          injection hbx with hbx
          injection hbx with _ h2 _
          cases h2
        · exact hb2 rfl
        · omega, by omega, (hLb.cell (p := ⟨b, o + i, none⟩) hl).trans hcc⟩)
    refine wpIn_wide.1 (range_law2 (sb := 15) (n := 10) (by omega) (gf := 83) (lb := #[.pointer (some ⟨wc.heap.size, 0, none⟩)]) rfl (enters_of Try.func83 (by kernel_rfl) rfl) hIt
      (IPu B w wL (.slice (some ⟨gS, 0, none⟩) xs.length capS) xs) (fun s A C h ht => h.turn ht (by have := hcut.out.le; have := hLs.out; have := hB0.out; omega)) ?start (fun pr x => ∃ k, k < vs.length ∧ pr = bk vs k ∧ x = (vs.length - 1 - k, vs.getD (vs.length - 1 - k) undef)) (fun pr x W0 W h => h) ?assign ?body ?done)
    case start => exact ⟨hcut.out.below.trans (hLb.mono (by have := hcut.out.le; have := hB0.out; omega)), KC.refl _ _, _, gS, hcut.out.box.below hLb, by rw [List.map_nil, List.append_nil]; exact hcut.out.stk.block (fun g c _ e => (hLb.block g (Array.getElem?_eq_some_iff.1 e).1).trans e), rfl, .inl rfl⟩
    case assign =>
      intro l x W K hK
      simp only [List.setIfInBounds_toArray, List.set_cons_succ, List.set_cons_zero] at hK ⊢
      gi_wp2_with fail
      exact hK
    case body =>
      intro l pr x W hI hB hlen
      simp only [List.setIfInBounds_toArray, List.set_cons_succ, List.set_cons_zero]
      obtain ⟨v', g', k1, k2, k3, k4⟩ := hI.ex
      obtain ⟨kk, hkk, hpr, hxe⟩ := hB
      obtain ⟨xi, xv⟩ := x
      obtain ⟨T, u, rfl⟩ : ∃ T u, xv = .iface T u := by
        have h1 := congrArg Prod.snd hxe
        simp only at h1
        rw [h1]
        have hlt : vs.length - 1 - kk < vs.length := by omega
        simp only [List.getD_eq_getElem?_getD, List.getElem?_eq_getElem hlt, Option.getD_some]
        exact hifc.out _ (List.getElem_mem hlt)
      obtain ⟨ys, hys⟩ : ∃ ys, xs ++ pr.map Prod.snd = ys := ⟨_, rfl⟩
      have hlen2 : ys.length ≤ 1000000 := by rw [← hys, List.length_append, List.length_map]; have := hrl.out; have := hkv.out; omega
      have hsz : B ≤ (W.alloc (.cells #[.iface T u] 64)).heap.size := by rw [World.size_alloc]; have := hI.kc.size; have := hLs.out; have := hcut.out.le; have := hB0.out; omega
      have HP := hide (fun v'' w1 hp => hI.push (x := (xi, .iface T u)) (v'' := v'') (w1 := w1) hB0.out hgS0.out (by have := hLs.out; have := hcut.out.le; omega) k1 k2 k3 (k4.imp (fun e => by cases e; rfl) id) hp)
      rw [hys] at k2 HP
      have k2a : Stk B (W.alloc (.cells #[.iface T u] 64)) v' ys := k2.block (fun g c _ e => (Below.heap_alloc W _ g (Array.getElem?_eq_some_iff.1 e).1).trans e)
      have hcn := cell_one_new W (.iface T u) 64 0 _ rfl
      obtain ⟨g6, cap6, rfl, _, _, _⟩ := k2.cell
      have e5 := k1.cell 0
      have l5 := k1.lt
      clear hI hpr hxe k1 k2 hys
      gi_wp2_with (gi_at_builtin; refine wpListIn_append_stk _ rfl (.tmp 75) (.tmp 77) rfl hsz rfl k2a ⟨W.heap.size, 0, none⟩ 1 (.iface T u) rfl hcn rfl hlen2 ?_; intro v'' w1 hp; obtain ⟨hb5, hwr, hiv⟩ := HP.out _ _ hp; have s5 := hb5.cell 0; have f5 := hb5.free 0; have m5 := hb5.lt; have HW5 := hide hwr; have HI5 := hide hiv; obtain ⟨g7, cap7, e7, _⟩ := hp.stk.cell; rw [List.length_append, List.length_singleton] at e7; subst e7; clear hp hb5 hwr hiv)
      exact ⟨HW5.out, HI5.out⟩
    case done =>
      intro D ys W hD hS hI hKD
      obtain ⟨v', g', k1, k2, k3, k4⟩ := hI.ex
      have e5 := k1.cell 0
      have l5 := k1.lt
      have hEND : ManyP B wb ks g st rest w (.returned v') (W.putObj D (.deferred none)) := by
        have hWs := hI.kc.size
        have hsc := hcut.out.le
        have hls := hLs.out
        have hb0 := hB0.out
        have ht : Turn w.heap.size W (W.putObj D (.deferred none)) := Turn.putObj _ (by omega) hKD rfl
        have hkA := (kc_below hLb (Wr := fun k t => k = w.heap.size + 1 ∧ t = 66 ∨ t = 64 ∧ (gS = k ∨ wL.heap.size ≤ k))).trans ((hI.kc.imp (fun k t h => h.imp id (fun h => ⟨h.1, h.2.imp (fun e => by cases e; rfl) id⟩))).trans ht.kc)
        have hnew : ∀ k, gS ≠ k → k < wc.heap.size → v'.ownBlock ≠ some k := fun k h1 h2 h3 => by
          rw [k3] at h3
          cases h3
          rcases k4 with h | h
          · cases h; exact h1 rfl
          · omega
        have hok : ∀ k, okS B (.slice (some ⟨gS, 0, none⟩) xs.length capS) wc.heap.size k → okS B v' (W.putObj D (.deferred none)).heap.size k := fun k hk => ⟨hk.1, hnew k (fun e => hk.2.1 (by rw [e]; rfl)) hk.2.2, by have := hk.2.2; have := ht.size; omega⟩
        have hblk : ∀ b cc, okS B (.slice (some ⟨gS, 0, none⟩) xs.length capS) wc.heap.size b → wc.heap[b]? = some (Obj.cells cc 64 (0, 0)) → (W.putObj D (.deferred none)).heap[b]? = some (Obj.cells cc 64 (0, 0)) := fun b cc hb e => hkA.block b cc 64 _ (by
          rintro (⟨rfl, _⟩ | ⟨_, rfl | h⟩)
          · have hbx : wc.heap[w.heap.size + 1]? = some (.cells _ 66) := hcut.out.box
            rw [e] at hbx
            injection hbx with hbx
            injection hbx with _ h2 _
            cases h2
          · exact hb.2.1 rfl
          · have := hb.2.2; omega) e
        rw [hS] at k2
        refine ⟨v', _, rfl, k2.block (fun g c _ e => ht.cells _ _ _ _ e), ?_, hcut.out.wr.kc hkA (fun k => by rintro (⟨_, h⟩ | ⟨h, _⟩) <;> cases h) (by rintro (⟨_, h⟩ | ⟨h, _⟩) <;> cases h), ht.below hI.below (by omega)⟩
        rw [bk_snd]
        exact RJX.append (RJX.map (by have := ht.size; omega) (fun k hk => hok k ⟨hk.1, hk.2.1, by have := hk.2.2; omega⟩) (fun b cc hb e => hblk b cc ⟨hb.1, hb.2.1, by have := hb.2.2; omega⟩ e) hcut.out.jobs) (RJX.reverse (RJX.map (by have := ht.size; omega) hok hblk HX.out))
      have HE := hide hEND
      clear hI k1 k2 k3 k4 hS hEND
      go_wp2_with fail
      exact ret79 rfl rfl hKD HE.out
end Go.Proofs.Ytcmhlfnmjpmjhaa
