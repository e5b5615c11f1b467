/- The walk of terms.At. -/
import Derived.Test.YtfndldfnlncabaaCopied
import Derived.Test.YtfndldfnlncabaaPath
set_option linter.unusedVariables false
set_option linter.unusedSimpArgs false
set_option linter.unnecessarySimpa false
set_option linter.deprecated false
namespace Go.Proofs.Ytfndldfnlncabaa
open Go.RowKit

/-- The kid to which a number leads. -/
def kidAt (ks : List Tm) (i : Int) : Option Tm := if 0 ≤ i then ks[i.toNat]? else none
/-- The part to which a path leads. -/
def atP : Tm → List Int → Option Tm
  | T, [] => some T
  | .mk _ _ _ ks, i :: p => match kidAt ks i with | some U => atP U p | none => none
theorem atP_cons (T : Tm) (i : Int) (p : List Int) : atP T (i :: p) = match kidAt T.kids i with | some U => atP U p | none => none := by
  cases T; rfl
theorem atP_cnt : ∀ (p : List Int) (T U : Tm), atP T p = some U → cnt U ≤ cnt T
  | [], T, U, h => by rw [atP] at h; injection h with h; subst h; exact Nat.le_refl _
  | i :: p, .mk k c t ks, U, h => by
    rw [atP] at h
    cases hk : kidAt ks i with
    | none => rw [hk] at h; cases h
    | some V =>
      rw [hk] at h
      have h1 := atP_cnt p V U h
      have h2 : V ∈ ks := by
        unfold kidAt at hk
        split at hk
        · exact List.mem_of_getElem? hk
        · cases hk
      have h3 := cntL_mem h2
      rw [cnt]; omega

abbrev zV : Value := .agg #[.int .i64 0, .string emptyB, .slice none 0 0, .slice none 0 0]
/-- What At hands back. -/
def AtP (w : World) (r : Option Tm) (e : Ending) (w' : World) : Prop :=
  (match r with
   | some U => ∃ v', e = .returned (.tuple #[v', .int .i64 0]) ∧ Tree w' U (fun k => w.heap.size ≤ k) v'
   | none => e = .returned (.tuple #[zV, .int .i64 4])) ∧ Below w.heap.size w w'

structure AtRel (w : World) (l : List Int) (res : Option Tm) (k : Nat) (U : Tm) (a1 : Option Addr) (c1 : Nat) (a2 : Option Addr) (c2 : Nat) (wr : World) : Prop where
  below : Below w.heap.size w wr
  box : Blk wr w.heap.size #[.int .i64 U.kind, .string U.cons, .slice a1 U.text.length c1, .slice a2 U.kids.length c2] 25
  cell : Blk wr (w.heap.size + 1) #[.int .i64 0, .string emptyB, .slice none 0 0, .slice none 0 0] 25
  reads : RTo (fun k => k < w.heap.size) wr U (.agg #[.int .i64 U.kind, .string U.cons, .slice a1 U.text.length c1, .slice a2 U.kids.length c2])
  eq : atP U (l.drop k) = res
  cnt : cnt U ≤ 1000000
  le : k ≤ l.length

theorem ret25 {R : Ending → World → Prop} {a : Act} {W : World} {k : Nat} {v0 v1 v2 v3 : Value} {c : Int} (h4 : (a.tmps[4]?).getD undef = .pointer (some ⟨k, 0, none⟩)) (h5 : (a.tmps[5]?).getD undef = .int .i64 c) (hd : a.defers = []) (hb : Blk W k #[v0, v1, v2, v3] 25) (hR : R (.returned (.tuple #[.agg #[v0, v1, v2, v3], .int .i64 c])) W) : bodyPost Try.prog Try.f25 R .ret a W := by
  have f0 : W.cell? ⟨k, 0, none⟩ = some v0 := hb.cell 0
  have f1 : W.cell? ⟨k, 1, none⟩ = some v1 := hb.cell 1
  have f2 : W.cell? ⟨k, 2, none⟩ = some v2 := hb.cell 2
  have f3 : W.cell? ⟨k, 3, none⟩ = some v3 := hb.cell 3
  refine bodyPost_ret (v := .tuple #[.agg #[v0, v1, v2, v3], .int .i64 c]) ?_ hd hR
  simp [results, Try.results25, h4, h5, go_sem, f0, f1, f2, f3]

theorem at_next {w wr : World} {l : List Int} {res : Option Tm} {k : Nat} {U V : Tm} {x1 x2 p1 p2 : Option Addr} {k1 k2 q1 q2 : Nat} (hr : AtRel w l res k U x1 k1 x2 k2 wr) (hk : k < l.length)
    (hx : RTo (fun k => k < w.heap.size) wr V (.agg #[.int .i64 V.kind, .string V.cons, .slice p1 V.text.length q1, .slice p2 V.kids.length q2])) (he : atP V (l.drop (k + 1)) = res) (hc : cnt V ≤ 1000000) :
    AtRel w l res (k + 1) V p1 q1 p2 q2 (lay4 wr w.heap.size (.int .i64 V.kind) (.string V.cons) (.slice p1 V.text.length q1) (.slice p2 V.kids.length q2)) := by
  have hbl : Below w.heap.size w (lay4 wr w.heap.size (.int .i64 V.kind) (.string V.cons) (.slice p1 V.text.length q1) (.slice p2 V.kids.length q2)) := by
    unfold lay4
    exact (((hr.below.setCell (p := ⟨_, 0, none⟩) (Nat.le_refl _) _).setCell (p := ⟨_, 1, none⟩) (Nat.le_refl _) _).setCell (p := ⟨_, 2, none⟩) (Nat.le_refl _) _).setCell (p := ⟨_, 3, none⟩) (Nat.le_refl _) _
  have hoth : ∀ k, k ≠ w.heap.size → (lay4 wr w.heap.size (.int .i64 V.kind) (.string V.cons) (.slice p1 V.text.length q1) (.slice p2 V.kids.length q2)).heap[k]? = wr.heap[k]? := by
    intro k hk
    unfold lay4
    rw [Below.heap_setCell _ _ _ _ hk, Below.heap_setCell _ _ _ _ hk, Below.heap_setCell _ _ _ _ hk, Below.heap_setCell _ _ _ _ hk]
  have hsz : (lay4 wr w.heap.size (.int .i64 V.kind) (.string V.cons) (.slice p1 V.text.length q1) (.slice p2 V.kids.length q2)).heap.size = wr.heap.size := by unfold lay4; simp [size_setCell]
  have hbox := Blk.lay (v0 := .int .i64 V.kind) (v1 := .string V.cons) (v2 := .slice p1 V.text.length q1) (v3 := .slice p2 V.kids.length q2) hr.box
  generalize lay4 wr w.heap.size (.int .i64 V.kind) (.string V.cons) (.slice p1 V.text.length q1) (.slice p2 V.kids.length q2) = w6 at *
  exact ⟨hbl, hbox, (hoth _ (by omega)).trans hr.cell, RTo.keep (keep_on hr.below hbl (by omega)) hx, he, hc, hk⟩
theorem at_end {w wr w5 : World} {l : List Int} {res : Option Tm} {k : Nat} {U : Tm} {x1 x2 : Option Addr} {k1 k2 : Nat} {v0 v1 v2 v3 : Value} (hr : AtRel w l res k U x1 k1 x2 k2 wr)
    (hT : Tree w5 U (fun k => wr.heap.size ≤ k) (.agg #[v0, v1, v2, v3])) (hb : Below wr.heap.size wr w5) :
    AtP w (some U) (.returned (.tuple #[.agg #[v0, v1, v2, v3], .int .i64 0])) (lay4 w5 (w.heap.size + 1) v0 v1 v2 v3) := by
  have h0 : Below w.heap.size w w5 := hr.below.trans (hb.mono hr.below.size)
  have hbl : Below w.heap.size w (lay4 w5 (w.heap.size + 1) v0 v1 v2 v3) := by
    unfold lay4
    exact (((h0.setCell (p := ⟨_, 0, none⟩) (Nat.le_succ _) _).setCell (p := ⟨_, 1, none⟩) (Nat.le_succ _) _).setCell (p := ⟨_, 2, none⟩) (Nat.le_succ _) _).setCell (p := ⟨_, 3, none⟩) (Nat.le_succ _) _
  have hoth : ∀ k, k ≠ w.heap.size + 1 → (lay4 w5 (w.heap.size + 1) v0 v1 v2 v3).heap[k]? = w5.heap[k]? := by
    intro k hk
    unfold lay4
    rw [Below.heap_setCell _ _ _ _ hk, Below.heap_setCell _ _ _ _ hk, Below.heap_setCell _ _ _ _ hk, Below.heap_setCell _ _ _ _ hk]
  have hsz : (lay4 w5 (w.heap.size + 1) v0 v1 v2 v3).heap.size = w5.heap.size := by unfold lay4; simp [size_setCell]
  generalize lay4 w5 (w.heap.size + 1) v0 v1 v2 v3 = w6 at *
  have hl := hr.cell.lt
  refine ⟨⟨_, rfl, Tree.weak (fun k hk => ?_) (Tree.keep (w := w5) (w' := w6) ⟨by omega, fun j hj _ => hoth j (by omega)⟩ hT)⟩, hbl⟩
  have := hr.below.size
  omega

set_option maxHeartbeats 2000000 in
set_option maxRecDepth 100000 in
theorem at_any (T : Tm) (l : List Int) (v u : Value) (w : World) (hc : cnt T ≤ 1000000) (hT : RT w T v) (hL : RV w l u) : Calls Try.prog 25 #[v, u] w (AtP w (atP T l)) := by
  obtain ⟨a1, c1, a2, c2, rfl, _, _, _, _⟩ := hT.open
  obtain ⟨al, cl, rfl, hRI⟩ := hL
  have HRI := hide hRI
  obtain ⟨res, hres⟩ : ∃ r, atP T l = r := ⟨_, rfl⟩
  rw [hres]
  obtain ⟨n, hn⟩ : ∃ n, l.length = n := ⟨_, rfl⟩
  have HN := hide hn
  have hlen := hRI.len
  rw [hn] at hlen ⊢
  have HR0 := hide (show AtRel w l res 0 T a1 c1 a2 c2 ((w.alloc (.cells #[.int .i64 T.kind, .string T.cons, .slice a1 T.text.length c1, .slice a2 T.kids.length c2] 25)).alloc (.cells #[.int .i64 0, .string emptyB, .slice none 0 0, .slice none 0 0] 25)) from by
    have hB : Below w.heap.size w ((w.alloc (.cells #[.int .i64 T.kind, .string T.cons, .slice a1 T.text.length c1, .slice a2 T.kids.length c2] 25)).alloc (.cells #[.int .i64 0, .string emptyB, .slice none 0 0, .slice none 0 0] 25)) := ((Below.refl _ w).alloc (Nat.le_refl _) _).alloc (by simp) _
    refine ⟨hB, (Blk.new w _ _).alloc _, ?_, RTo.keep (keep_low hB) (RTo.low hT), hres, hc, Nat.zero_le _⟩
    have := Blk.new (w.alloc (.cells #[.int .i64 T.kind, .string T.cons, .slice a1 T.text.length c1, .slice a2 T.kids.length c2] 25)) #[.int .i64 0, .string emptyB, .slice none 0 0, .slice none 0 0] 25
    rw [World.size_alloc] at this
    exact this)
  clear hres hn hRI hT
  go_enter Try.func25, Try.ntmps25
  go_wp2_with fail
  go_loopg [10] n (fun m v10 wr => ∃ (k : Nat) (U : Tm) (x1 : Option Addr) (k1 : Nat) (x2 : Option Addr) (k2 : Nat), Hid (m = n - k) ∧ v10 = .int .i64 (k : Int) ∧ Hid (AtRel w l res k U x1 k1 x2 k2 wr))
  case atStart => exact ⟨0, T, a1, c1, a2, c2, rfl, rfl, HR0⟩
  case round =>
    obtain ⟨k, U, x1, k1, x2, k2, hm, rfl, hr⟩ := hrel
    have hle := hr.out.le
    rw [HN.out] at hle
    have t0 := hr.out.box.cell 0
    have t1 := hr.out.box.cell 1
    have t2 := hr.out.box.cell 2
    have t3 := hr.out.box.cell 3
    have s0 := hr.out.box.free 0
    have s1 := hr.out.box.free 1
    have s2 := hr.out.box.free 2
    have s3 := hr.out.box.free 3
    have tl := hr.out.box.lt
    have d0 := hr.out.cell.cell 0
    have d1 := hr.out.cell.cell 1
    have d2 := hr.out.cell.cell 2
    have d3 := hr.out.cell.cell 3
    have z0 := hr.out.cell.free 0
    have z1 := hr.out.cell.free 1
    have z2 := hr.out.cell.free 2
    have z3 := hr.out.cell.free 3
    have dl := hr.out.cell.lt
    by_cases hlt : k < n
    · have hlti : (k : Int) < (n : Int) := by omega
      have hk2 : k < l.length := by have := HN.out; omega
      obtain ⟨b, o, rfl, hbl, hcells⟩ := HRI.out.at_ (by rintro rfl; simp at hk2)
      have hcell := (hr.out.below.cell (p := ⟨b, o + k, none⟩) hbl).trans (hcells k hk2)
      have hbl2 := Nat.lt_of_lt_of_le hbl hr.out.below.size
      have heq := hr.out.eq
      rw [List.drop_eq_getElem_cons hk2, atP_cons] at heq
      obtain ⟨i, hi⟩ : ∃ i, l[k] = i := ⟨_, rfl⟩
      rw [hi] at hcell heq
      have HEQ := hide heq
      clear hcells heq hi
      by_cases hneg : i < 0
      · have HE := hide (show none = res by have h := HEQ.out; unfold kidAt at h; rw [if_neg (by omega)] at h; exact h)
        go_wp2_with fail
        have HB := hide (Blk.lay (v0 := .int .i64 0) (v1 := .string emptyB) (v2 := .slice none 0 0) (v3 := .slice none 0 0) hr.out.cell)
        refine ret25 rfl rfl rfl HB.out ⟨?_, ?_⟩
        · rw [← HE.out]
        · exact (((hr.out.below.setCell (p := ⟨_, 0, none⟩) (Nat.le_succ _) _).setCell (p := ⟨_, 1, none⟩) (Nat.le_succ _) _).setCell (p := ⟨_, 2, none⟩) (Nat.le_succ _) _).setCell (p := ⟨_, 3, none⟩) (Nat.le_succ _) _
      · by_cases hge : (U.kids.length : Int) ≤ i
        · have HE := hide (show none = res by
            have h := HEQ.out
            unfold kidAt at h
            rw [if_pos (by omega), List.getElem?_eq_none (by omega)] at h
            exact h)
          go_wp2_with fail
          have HB := hide (Blk.lay (v0 := .int .i64 0) (v1 := .string emptyB) (v2 := .slice none 0 0) (v3 := .slice none 0 0) hr.out.cell)
          refine ret25 rfl rfl rfl HB.out ⟨?_, ?_⟩
          · rw [← HE.out]
          · exact (((hr.out.below.setCell (p := ⟨_, 0, none⟩) (Nat.le_succ _) _).setCell (p := ⟨_, 1, none⟩) (Nat.le_succ _) _).setCell (p := ⟨_, 2, none⟩) (Nat.le_succ _) _).setCell (p := ⟨_, 3, none⟩) (Nat.le_succ _) _
        · obtain ⟨j, rfl⟩ : ∃ j : Nat, i = (j : Int) := ⟨i.toNat, by omega⟩
          have hj : j < U.kids.length := by omega
          have hji : (j : Int) < (U.kids.length : Int) := by omega
          have HE := hide (show atP U.kids[j] (l.drop (k + 1)) = res by
            have h := HEQ.out
            unfold kidAt at h
            rw [if_pos (by omega), Int.toNat_natCast, List.getElem?_eq_getElem hj] at h
            exact h)
          obtain ⟨y1, m1, y2, m2, ev, _, _, _, hkids⟩ := hr.out.reads.open
          simp only [Value.agg.injEq, Array.mk.injEq, List.cons.injEq, and_true, true_and, Value.slice.injEq] at ev
          obtain ⟨⟨rfl, rfl⟩, rfl, rfl⟩ := ev
          obtain ⟨b2, o2, p1, q1, p2, q2, rfl, hbl3, e0, e1, e2, e3, hx⟩ := hkids.get j hj
          have HNX := hide (at_next hr.out hk2 hx HE.out (by
            have : U.kids[j] ∈ U.kids := List.getElem_mem hj
            have h1 := cntL_mem this
            have h2 := hr.out.cnt
            have h3 : cnt U = 1 + cntL U.kids := by cases U; rw [cnt]; rfl
            omega))
          clear hkids hx HEQ HE z0 z1 z2 z3 d0 d1 d2 d3 dl
          go_wp2_with fail
          go_roundg (n - (k + 1))
          case measure => rw [hm.out]; omega
          case rel => exact ⟨k + 1, _, _, _, _, _, rfl, rfl, HNX⟩
    · have hlti : ¬ (k : Int) < (n : Int) := by omega
      have heq := hr.out.eq
      rw [List.drop_eq_nil_of_le (by have := HN.out; omega), atP] at heq
      subst heq
      have hrt : RT wr U (.agg #[.int .i64 U.kind, .string U.cons, .slice x1 U.text.length k1, .slice x2 U.kids.length k2]) := RTo.weak (fun _ _ => trivial) hr.out.reads
      have HX := hide (copied_any U hr.out.cnt _ wr hrt)
      clear hrt z0 z1 z2 z3 d0 d1 d2 d3
      go_wp2_with fail
      refine HX.out.mono ?_
      rintro e w5 ⟨⟨v', rfl, htree⟩, hb5⟩
      obtain ⟨p1, m1, p2, m2, rfl, _, _, _, _⟩ := htree.rt.open
      have hcl := hr.out.cell.below hb5
      have d0 := hcl.cell 0
      have d1 := hcl.cell 1
      have d2 := hcl.cell 2
      have d3 := hcl.cell 3
      have z0 := hcl.free 0
      have z1 := hcl.free 1
      have z2 := hcl.free 2
      have z3 := hcl.free 3
      have dl5 := hcl.lt
      have HB := hide (Blk.lay (v0 := .int .i64 U.kind) (v1 := .string U.cons) (v2 := .slice p1 U.text.length m1) (v3 := .slice p2 U.kids.length m2) hcl)
      have HP := hide (at_end hr.out htree hb5)
      clear hcl htree hb5 HX
      go_wp2_with fail
      exact ret25 rfl rfl rfl HB.out HP.out
end Go.Proofs.Ytfndldfnlncabaa
