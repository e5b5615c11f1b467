/- The walk of terms.Put. -/
import Derived.Test.YtfndldfnlncabaaAt
set_option linter.unusedVariables false
set_option linter.unusedSimpArgs false
set_option linter.unnecessarySimpa false
set_option linter.deprecated false
namespace Go.Proofs.Ytfndldfnlncabaa
open Go.RowKit

/-- A term with another one in the place to which a path leads. -/
def putP : Tm → List Int → Tm → Option Tm
  | _, [], S => some S
  | .mk k c t ks, i :: p, S => match kidAt ks i with | some U => (putP U p S).map fun V => .mk k c t (ks.set i.toNat V) | none => none
def setKid (T : Tm) (j : Nat) (V : Tm) : Tm := .mk T.kind T.cons T.text (T.kids.set j V)
theorem putP_cons (T : Tm) (i : Int) (p : List Int) (S : Tm) : putP T (i :: p) S = match kidAt T.kids i with | some U => (putP U p S).map (setKid T i.toNat) | none => none := by
  cases T; rfl
theorem kidAt_nat (ks : List Tm) (j : Nat) (h : j < ks.length) : kidAt ks (j : Int) = some ks[j] := by
  unfold kidAt
  rw [if_pos (by omega), Int.toNat_natCast, List.getElem?_eq_getElem h]
theorem putP_none : ∀ (p : List Int) (T S : Tm), atP T p = none → putP T p S = none
  | [], T, S, h => by rw [atP] at h; cases h
  | i :: p, T, S, h => by
    rw [atP_cons] at h
    rw [putP_cons]
    cases hk : kidAt T.kids i with
    | none => rfl
    | some V =>
      rw [hk] at h
      simp only at h
      simp only [putP_none p V S h, Option.map_none]
theorem putP_some : ∀ (p : List Int) (T S U : Tm), atP T p = some U → ∃ X, putP T p S = some X
  | [], T, S, U, h => ⟨S, rfl⟩
  | i :: p, T, S, U, h => by
    rw [atP_cons] at h
    rw [putP_cons]
    cases hk : kidAt T.kids i with
    | none => rw [hk] at h; cases h
    | some V =>
      rw [hk] at h
      simp only at h
      obtain ⟨X, hX⟩ := putP_some p V S U h
      exact ⟨_, by simp only [hX, Option.map_some]; rfl⟩

/-- What Put hands back. -/
def PutP (w : World) (r : Option Tm) (e : Ending) (w' : World) : Prop :=
  (match r with
   | some U => ∃ v', e = .returned (.tuple #[v', .int .i64 0]) ∧ RTo (fun k => w.heap.size ≤ k) w' U v'
   | none => e = .returned (.tuple #[zV, .int .i64 4])) ∧ Below w.heap.size w w'

/-- A pointer to a part of a term in memory of the call's own: what it is if that part is written over. -/
structure Hole (B : Nat) (res : Option Tm) (S : Tm) (l : List Int) (k : Nat) (U : Tm) (pb po : Nat) (v0 v1 v2 v3 : Value) (wr : World) : Prop where
  ctx : ∃ (Q : Nat → Prop) (ctx : Tm → Tm), Tree wr U Q (.agg #[v0, v1, v2, v3]) ∧ (∀ k, Q k → B + 3 ≤ k ∧ k ≠ pb) ∧ (putP U (l.drop k) S).map ctx = res ∧
    ∀ (w' : World) (V : Tm) (s0 s1 s2 s3 : Value), Keep (fun k => B ≤ k ∧ k ≠ B + 1 ∧ k ≠ B + 2 ∧ k ≠ pb ∧ ¬ Q k) wr w' → (∀ i, (i < po ∨ po + 4 ≤ i) → w'.cell? ⟨pb, i, none⟩ = wr.cell? ⟨pb, i, none⟩) →
      w'.cell? ⟨pb, po, none⟩ = some s0 → w'.cell? ⟨pb, po + 1, none⟩ = some s1 → w'.cell? ⟨pb, po + 2, none⟩ = some s2 → w'.cell? ⟨pb, po + 3, none⟩ = some s3 →
      RTo (fun k => B + 3 ≤ k) w' V (.agg #[s0, s1, s2, s3]) →
      ∃ r0 r1 r2 r3, w'.cell? ⟨B, 0, none⟩ = some r0 ∧ w'.cell? ⟨B, 1, none⟩ = some r1 ∧ w'.cell? ⟨B, 2, none⟩ = some r2 ∧ w'.cell? ⟨B, 3, none⟩ = some r3 ∧ RTo (fun k => B + 3 ≤ k) w' (ctx V) (.agg #[r0, r1, r2, r3])
  ptr : B ≤ pb ∧ pb ≠ B + 1 ∧ pb ≠ B + 2 ∧ ∃ cur, wr.heap[pb]? = some (.cells cur 25 (0, 0)) ∧ po + 4 ≤ cur.size
  c0 : wr.cell? ⟨pb, po, none⟩ = some v0
  c1 : wr.cell? ⟨pb, po + 1, none⟩ = some v1
  c2 : wr.cell? ⟨pb, po + 2, none⟩ = some v2
  c3 : wr.cell? ⟨pb, po + 3, none⟩ = some v3

theorem hole_start {B : Nat} {res : Option Tm} {S T : Tm} {l : List Int} {wr : World} {v0 v1 v2 v3 : Value} (hT : Tree wr T (fun k => B + 3 ≤ k) (.agg #[v0, v1, v2, v3])) (hb : Blk wr B #[v0, v1, v2, v3] 25) (hres : putP T l S = res) :
    Hole B res S l 0 T B 0 v0 v1 v2 v3 wr :=
  ⟨⟨_, id, hT, fun k hk => ⟨hk, by omega⟩, by rw [List.drop_zero, hres]; cases res <;> rfl, fun w' V s0 s1 s2 s3 _ _ e0 e1 e2 e3 hV => ⟨s0, s1, s2, s3, e0, e1, e2, e3, hV⟩⟩,
    ⟨Nat.le_refl _, by omega, by omega, _, hb, by simp⟩, hb.cell 0, hb.cell 1, hb.cell 2, hb.cell 3⟩

theorem hole_next {B : Nat} {res : Option Tm} {S U : Tm} {l : List Int} {k pb po j : Nat} {wr : World} {a1 : Option Addr} {d1 : Nat} {a2 : Option Addr} {d2 : Nat}
    (h : Hole B res S l k U pb po (.int .i64 U.kind) (.string U.cons) (.slice a1 U.text.length d1) (.slice a2 U.kids.length d2) wr) (hk : k < l.length) (hi : l[k] = (j : Int)) (hj : j < U.kids.length) :
    ∃ b y1 f1 y2 f2, a2 = some ⟨b, 0, none⟩ ∧ b < wr.heap.size ∧ Hole B res S l (k + 1) U.kids[j] b (j * 4) (.int .i64 U.kids[j].kind) (.string U.kids[j].cons) (.slice y1 U.kids[j].text.length f1) (.slice y2 U.kids[j].kids.length f2) wr := by
  obtain ⟨⟨Q, ctx, hT, hQ, heq, hplug⟩, hptr, c0, c1, c2, c3⟩ := h
  obtain ⟨kd, cs, tx, ks⟩ := U
  have hj' : j < ks.length := hj
  simp only [Tm.kind, Tm.cons, Tm.text, Tm.kids] at *
  rw [Tree] at hT
  obtain ⟨x1, m1, x2, m2, ev, hkd, hcs, htx, hkl, hkids⟩ := hT
  simp only [Value.agg.injEq, Array.mk.injEq, List.cons.injEq, and_true, true_and, Value.slice.injEq] at ev
  obtain ⟨⟨rfl, rfl⟩, rfl, rfl⟩ := ev
  obtain ⟨b, cur, rfl, hQb, hcur, hcsz, hne, hts⟩ := hkids (by rintro rfl; simp at hj')
  have hbl : b < wr.heap.size := (Array.getElem?_eq_some_iff.1 hcur).1
  obtain ⟨v0, v1, v2, v3, Q', ⟨e0, e1, e2, e3⟩, hx, hQ', hput⟩ := Trees.at_ (ok := fun k => B + 3 ≤ k) j hj (fun k hk => (hQ k hk.1).1) hts
  rw [Nat.zero_add] at e0 e1 e2 e3
  obtain ⟨y1, f1, y2, f2, ev2, _, _, _, _⟩ := hx.rt.open
  simp only [Value.agg.injEq, Array.mk.injEq, List.cons.injEq, and_true] at ev2
  obtain ⟨rfl, rfl, rfl, rfl⟩ := ev2
  have hb3 := hQ b hQb
  refine ⟨b, y1, f1, y2, f2, rfl, hbl, ⟨Q', fun V => ctx (setKid (.mk kd cs tx ks) j V), hx, fun k hk => ⟨(hQ k (hQ' k hk).1).1, (hQ' k hk).2.1⟩, ?_, ?_⟩, ⟨by omega, by omega, by omega, cur, hcur, by omega⟩, e0, e1, e2, e3⟩
  · rw [List.drop_eq_getElem_cons hk, hi, putP_cons] at heq
    simp only [Tm.kids, kidAt_nat ks j hj, Int.toNat_natCast, Option.map_map] at heq
    exact heq
  · intro w' V s0 s1 s2 s3 hkeep hcells g0 g1 g2 g3 hV
    obtain ⟨hp1, hp2, hp3, pcur, hpcur, hpsz⟩ := hptr
    have hpl : pb < wr.heap.size := (Array.getElem?_eq_some_iff.1 hpcur).1
    have hnQ' : ∀ k, ¬ Q k → ¬ Q' k := fun k h1 h2 => h1 (hQ' k h2).1
    have hpb : pb ≠ b := fun e => by have := hb3.2; exact this e.symm
    have hpQ : ¬ Q pb := fun h => (hQ pb h).2 rfl
    have hpsame : w'.heap[pb]? = wr.heap[pb]? := hkeep.block pb ⟨hp1, hp2, hp3, hpb, hnQ' _ hpQ⟩ hpl
    have hpc : ∀ i, w'.cell? ⟨pb, i, none⟩ = wr.cell? ⟨pb, i, none⟩ := fun i => World.cell?_of_block (w := wr) hpsame
    refine hplug w' (setKid (.mk kd cs tx ks) j V) _ _ _ _ ⟨hkeep.size, fun k hk hlt => hkeep.block k ⟨hk.1, hk.2.1, hk.2.2.1, fun e => hk.2.2.2.2 (e ▸ hQb), hnQ' k hk.2.2.2.2⟩ hlt⟩ (fun i _ => hpc i) ((hpc _).trans c0) ((hpc _).trans c1) ((hpc _).trans c2) ((hpc _).trans c3) ?_
    unfold setKid
    rw [RTo]
    simp only [Tm.kind, Tm.cons, Tm.text, Tm.kids]
    refine ⟨a1, d1, some ⟨b, 0, none⟩, d2, by rw [List.length_set], hkd, hcs, ⟨htx.1, fun hn => ?_⟩, by rw [List.length_set]; exact hkl, fun hn => ⟨b, 0, rfl, by omega, Nat.lt_of_lt_of_le hbl hkeep.size, ?_⟩⟩
    · obtain ⟨tb, tofs, e, hQt, htl, hr⟩ := htx.rb.2 hn
      have htb3 := hQ tb hQt
      have hne2 : tb ≠ b := fun h => hne (by rw [e, ← h]; rfl)
      have hnq : ¬ Q' tb := fun h => (hQ' tb h).2.2 (by rw [e]; rfl)
      have hsame : w'.heap[tb]? = wr.heap[tb]? := hkeep.block tb ⟨by omega, by omega, by omega, hne2, hnq⟩ htl
      exact ⟨tb, tofs, e, htb3.1, Nat.lt_of_lt_of_le htl hkeep.size, fun i hi => (World.cell?_of_block (w := wr) hsame).trans (hr i hi)⟩
    · refine hput w' V s0 s1 s2 s3 ⟨hkeep.size, fun k hk hlt => hkeep.block k ⟨?_, ?_, ?_, hk.1.2.1, hk.2⟩ hlt⟩ (fun i _ _ h3 => hcells i (by omega)) (by rw [Nat.zero_add]; exact g0) (by rw [Nat.zero_add]; exact g1) (by rw [Nat.zero_add]; exact g2) (by rw [Nat.zero_add]; exact g3) hV
      all_goals (have := hQ k hk.1.1; omega)

theorem kidAt_some {ks : List Tm} {i : Int} {V : Tm} (h : kidAt ks i = some V) : ∃ j : Nat, i = (j : Int) ∧ ∃ hj : j < ks.length, ks[j] = V := by
  unfold kidAt at h
  split at h
  · rename_i h0
    refine ⟨i.toNat, by omega, ?_⟩
    obtain ⟨h1, h2⟩ := List.getElem?_eq_some_iff.1 h
    exact ⟨h1, h2⟩
  · cases h
theorem ret27 {R : Ending → World → Prop} {a : Act} {W : World} {k : Nat} {v0 v1 v2 v3 : Value} {c : Int} (h4 : (a.tmps[6]?).getD undef = .pointer (some ⟨k, 0, none⟩)) (h5 : (a.tmps[7]?).getD undef = .int .i64 c) (hd : a.defers = []) (hb : Blk W k #[v0, v1, v2, v3] 25) (hR : R (.returned (.tuple #[.agg #[v0, v1, v2, v3], .int .i64 c])) W) : bodyPost Try.prog Try.f27 R .ret a W := by
  have f0 : W.cell? ⟨k, 0, none⟩ = some v0 := hb.cell 0
  have f1 : W.cell? ⟨k, 1, none⟩ = some v1 := hb.cell 1
  have f2 : W.cell? ⟨k, 2, none⟩ = some v2 := hb.cell 2
  have f3 : W.cell? ⟨k, 3, none⟩ = some v3 := hb.cell 3
  refine bodyPost_ret (v := .tuple #[.agg #[v0, v1, v2, v3], .int .i64 c]) ?_ hd hR
  simp [results, Try.results27, h4, h5, go_sem, f0, f1, f2, f3]
theorem three_blk (w : World) (c d e : Array Value) : Blk (((w.alloc (.cells c 25)).alloc (.cells d 25)).alloc (.cells e 25)) w.heap.size c 25 ∧ Blk (((w.alloc (.cells c 25)).alloc (.cells d 25)).alloc (.cells e 25)) (w.heap.size + 1) d 25 ∧
    Blk (((w.alloc (.cells c 25)).alloc (.cells d 25)).alloc (.cells e 25)) (w.heap.size + 1 + 1) e 25 ∧ Below w.heap.size w (((w.alloc (.cells c 25)).alloc (.cells d 25)).alloc (.cells e 25)) ∧ (((w.alloc (.cells c 25)).alloc (.cells d 25)).alloc (.cells e 25)).heap.size = w.heap.size + 3 := by
  have h1 := Blk.new (w.alloc (.cells c 25)) d 25
  rw [World.size_alloc] at h1
  have h2 := Blk.new ((w.alloc (.cells c 25)).alloc (.cells d 25)) e 25
  rw [World.size_alloc, World.size_alloc] at h2
  exact ⟨((Blk.new w c 25).alloc _).alloc _, h1.alloc _, h2, (((Below.refl _ w).alloc (Nat.le_refl _) _).alloc (by simp) _).alloc (by simp; omega) _, by simp⟩
theorem lay_facts {w : World} {g : Nat} (v0 v1 v2 v3 : Value) : (∀ {B : Nat} {a : World}, B ≤ g → Below B a w → Below B a (lay4 w g v0 v1 v2 v3)) ∧ (∀ k, k ≠ g → (lay4 w g v0 v1 v2 v3).heap[k]? = w.heap[k]?) ∧ (lay4 w g v0 v1 v2 v3).heap.size = w.heap.size := by
  refine ⟨fun hB h => ?_, fun k hk => ?_, ?_⟩
  · unfold lay4
    exact (((h.setCell (p := ⟨_, 0, none⟩) hB _).setCell (p := ⟨_, 1, none⟩) hB _).setCell (p := ⟨_, 2, none⟩) hB _).setCell (p := ⟨_, 3, none⟩) hB _
  · unfold lay4
    rw [Below.heap_setCell _ _ _ _ hk, Below.heap_setCell _ _ _ _ hk, Below.heap_setCell _ _ _ _ hk, Below.heap_setCell _ _ _ _ hk]
  · unfold lay4; simp [size_setCell]

theorem put_end {w wr w8 : World} {res : Option Tm} {S U X : Tm} {l : List Int} {k pb po : Nat} {u0 u1 u2 u3 y0 y1 y2 y3 : Value} (h : Hole w.heap.size res S l k U pb po u0 u1 u2 u3 wr) (hd : l.drop k = []) (hres : res = some X)
    (hw : Below w.heap.size w wr) (hz : w.heap.size + 3 ≤ wr.heap.size) (hr : Blk wr (w.heap.size + 1 + 1) #[.int .i64 0, .string emptyB, .slice none 0 0, .slice none 0 0] 25) (hb : Below wr.heap.size wr w8) (hT : Tree w8 S (fun k => wr.heap.size ≤ k) (.agg #[y0, y1, y2, y3])) :
    (∃ r0 r1 r2 r3, (((((w8.setCell ⟨pb, po, none⟩ y0).setCell ⟨pb, po + 1, none⟩ y1).setCell ⟨pb, po + 2, none⟩ y2).setCell ⟨pb, po + 3, none⟩ y3).cell? ⟨w.heap.size, 0, none⟩ = some r0 ∧
      ((((w8.setCell ⟨pb, po, none⟩ y0).setCell ⟨pb, po + 1, none⟩ y1).setCell ⟨pb, po + 2, none⟩ y2).setCell ⟨pb, po + 3, none⟩ y3).cell? ⟨w.heap.size, 1, none⟩ = some r1 ∧
      ((((w8.setCell ⟨pb, po, none⟩ y0).setCell ⟨pb, po + 1, none⟩ y1).setCell ⟨pb, po + 2, none⟩ y2).setCell ⟨pb, po + 3, none⟩ y3).cell? ⟨w.heap.size, 2, none⟩ = some r2 ∧
      ((((w8.setCell ⟨pb, po, none⟩ y0).setCell ⟨pb, po + 1, none⟩ y1).setCell ⟨pb, po + 2, none⟩ y2).setCell ⟨pb, po + 3, none⟩ y3).cell? ⟨w.heap.size, 3, none⟩ = some r3) ∧
      RTo (fun k => w.heap.size + 3 ≤ k) ((((w8.setCell ⟨pb, po, none⟩ y0).setCell ⟨pb, po + 1, none⟩ y1).setCell ⟨pb, po + 2, none⟩ y2).setCell ⟨pb, po + 3, none⟩ y3) X (.agg #[r0, r1, r2, r3])) ∧
    Blk ((((w8.setCell ⟨pb, po, none⟩ y0).setCell ⟨pb, po + 1, none⟩ y1).setCell ⟨pb, po + 2, none⟩ y2).setCell ⟨pb, po + 3, none⟩ y3) (w.heap.size + 1 + 1) #[.int .i64 0, .string emptyB, .slice none 0 0, .slice none 0 0] 25 ∧
    Below w.heap.size w ((((w8.setCell ⟨pb, po, none⟩ y0).setCell ⟨pb, po + 1, none⟩ y1).setCell ⟨pb, po + 2, none⟩ y2).setCell ⟨pb, po + 3, none⟩ y3) ∧
    w.heap.size < ((((w8.setCell ⟨pb, po, none⟩ y0).setCell ⟨pb, po + 1, none⟩ y1).setCell ⟨pb, po + 2, none⟩ y2).setCell ⟨pb, po + 3, none⟩ y3).heap.size := by
  obtain ⟨⟨Q, ctx, hTU, hQ, heq, hplug⟩, ⟨hp1, hp2, hp3, cur, hcur, hsz⟩, c0, c1, c2, c3⟩ := h
  have hpl : pb < wr.heap.size := (Array.getElem?_eq_some_iff.1 hcur).1
  have hcur8 : w8.heap[pb]? = some (.cells cur 25 (0, 0)) := (hb.block pb hpl).trans hcur
  obtain ⟨⟨cur', hcur9, hsz', hout, k0, k1, k2, k3⟩, hsz9, hoth⟩ := four_set (y0 := y0) (y1 := y1) (y2 := y2) (y3 := y3) hcur8 (o := po) hsz
  have hB8 : Below w.heap.size w w8 := hw.trans (hb.mono hw.size)
  have hB9 : Below w.heap.size w ((((w8.setCell ⟨pb, po, none⟩ y0).setCell ⟨pb, po + 1, none⟩ y1).setCell ⟨pb, po + 2, none⟩ y2).setCell ⟨pb, po + 3, none⟩ y3) :=
    (((hB8.setCell (p := ⟨pb, po, none⟩) hp1 _).setCell (p := ⟨pb, po + 1, none⟩) hp1 _).setCell (p := ⟨pb, po + 2, none⟩) hp1 _).setCell (p := ⟨pb, po + 3, none⟩) hp1 _
  generalize ((((w8.setCell ⟨pb, po, none⟩ y0).setCell ⟨pb, po + 1, none⟩ y1).setCell ⟨pb, po + 2, none⟩ y2).setCell ⟨pb, po + 3, none⟩ y3) = w9 at *
  have hs8 := hb.size
  have hT9 : Tree w9 S (fun k => wr.heap.size ≤ k) (.agg #[y0, y1, y2, y3]) := Tree.keep ⟨by omega, fun j hj _ => hoth j (by omega)⟩ hT
  have hX : ctx S = X := by
    rw [hd, hres] at heq
    have : putP U [] S = some S := by cases U; rfl
    rw [this] at heq
    exact Option.some.inj heq
  obtain ⟨r0, r1, r2, r3, e0, e1, e2, e3, hR⟩ := hplug w9 S y0 y1 y2 y3 ⟨by omega, fun j hj hlt => (hoth j hj.2.2.2.1).trans (hb.block j hlt)⟩ (fun i hi => by rw [cell_at hcur9, cell_at hcur, hout i hi])
    (by rw [cell_at hcur9]; exact k0) (by rw [cell_at hcur9]; exact k1) (by rw [cell_at hcur9]; exact k2) (by rw [cell_at hcur9]; exact k3) (RTo.weak (fun j hj => by omega) hT9.rt)
  rw [hX] at hR
  exact ⟨⟨r0, r1, r2, r3, ⟨e0, e1, e2, e3⟩, hR⟩, (hoth _ (by omega)).trans (hr.below hb), hB9, by omega⟩

set_option maxHeartbeats 4000000 in
set_option maxRecDepth 100000 in
theorem put_any (T S : Tm) (l : List Int) (v u s : Value) (w : World) (hcT : cnt T ≤ 1000000) (hcS : cnt S ≤ 1000000) (hT : RT w T v) (hL : RV w l u) (hS : RT w S s) : Calls Try.prog 27 #[v, u, s] w (PutP w (putP T l S)) := by
  obtain ⟨a1, c1, a2, c2, rfl, _, _, _, _⟩ := hT.open
  obtain ⟨s1, d1, s2, d2, rfl, _, _, _, _⟩ := hS.open
  have HT := hide (fun W (h : Below w.heap.size w W) => RT.below h hT)
  have HS := hide (fun W (h : Below w.heap.size w W) => RT.below h hS)
  have HLV := hide (fun W (h : Below w.heap.size w W) => (show RV W l u from by obtain ⟨a, c, e, hr⟩ := hL; exact ⟨a, c, e, hr.below h⟩))
  obtain ⟨al, cl, rfl, hRI⟩ := hL
  have HRI := hide hRI
  obtain ⟨n, hn⟩ : ∃ n, l.length = n := ⟨_, rfl⟩
  have HN := hide hn
  have hlen := hRI.len
  have H3 := hide (three_blk w #[.int .i64 T.kind, .string T.cons, .slice a1 T.text.length c1, .slice a2 T.kids.length c2] #[.int .i64 S.kind, .string S.cons, .slice s1 S.text.length d1, .slice s2 S.kids.length d2] #[.int .i64 0, .string emptyB, .slice none 0 0, .slice none 0 0])
  have HAT := hide (fun W v u h1 h2 => at_any T l v u W hcT h1 h2)
  rw [hn] at hlen HLV ⊢
  clear hn hRI hT hS
  obtain ⟨res, hres⟩ : ∃ r, putP T l S = r := ⟨_, rfl⟩
  rw [hres]
  have HRES := hide hres
  clear hres
  go_enter Try.func27, Try.ntmps27
  go_wp2_with fail
  refine (HAT.out _ _ _ (HT.out _ H3.out.2.2.2.1) (HLV.out _ H3.out.2.2.2.1)).mono ?_
  rintro e w4 ⟨hAt, hb4⟩
  have hB4 := H3.out.2.2.2.1.trans (hb4.mono H3.out.2.2.2.1.size)
  have b0 := H3.out.1.below hb4
  have b1 := H3.out.2.1.below hb4
  have b2 := H3.out.2.2.1.below hb4
  have hz4 := hb4.size
  rw [H3.out.2.2.2.2] at hz4
  clear hb4 H3
  cases hat : atP T l with
  | none =>
    rw [hat] at hAt
    obtain rfl := hAt
    have HE := hide (show res = none by rw [← HRES.out, putP_none l T S hat])
    have HBL := hide (((lay_facts (w := w4) (g := w.heap.size + 1 + 1) (.int .i64 0) (.string emptyB) (.slice none 0 0) (.slice none 0 0)).1 (by omega) hB4).alloc (by rw [(lay_facts (w := w4) (g := w.heap.size + 1 + 1) (.int .i64 0) (.string emptyB) (.slice none 0 0) (.slice none 0 0)).2.2]; omega) (.cells #[.int .i64 0, .string emptyB, .slice none 0 0, .slice none 0 0] 25))
    have HBK := hide ((Blk.lay (v0 := .int .i64 0) (v1 := .string emptyB) (v2 := .slice none 0 0) (v3 := .slice none 0 0) b2).alloc (.cells #[.int .i64 0, .string emptyB, .slice none 0 0, .slice none 0 0] 25))
    have d0 := b2.cell 0
    have d1 := b2.cell 1
    have d2 := b2.cell 2
    have d3 := b2.cell 3
    have z0 := b2.free 0
    have z1 := b2.free 1
    have z2 := b2.free 2
    have z3 := b2.free 3
    have zl := b2.lt
    clear b0 b1 b2
    go_wp2_with fail
    refine ret27 rfl rfl rfl HBK.out ⟨?_, HBL.out⟩
    rw [HE.out]
  | some U0 =>
    rw [hat] at hAt
    obtain ⟨v', rfl, htr⟩ := hAt
    obtain ⟨X, hX⟩ := putP_some l T S U0 hat
    have HE := hide (show res = some X by rw [← HRES.out, hX])
    obtain ⟨p1, m1, p2, m2, rfl, _, _, _, _⟩ := htr.rt.open
    have hB5 := hB4.alloc hB4.size (.cells #[.int .i64 U0.kind, .string U0.cons, .slice p1 U0.text.length m1, .slice p2 U0.kids.length m2] 25)
    have HC := hide (copied_any T hcT _ _ (HT.out _ hB5))
    have HAX := hide hat
    have HXX := hide hX
    have b0' := b0.alloc (.cells #[.int .i64 U0.kind, .string U0.cons, .slice p1 U0.text.length m1, .slice p2 U0.kids.length m2] 25)
    have b1' := b1.alloc (.cells #[.int .i64 U0.kind, .string U0.cons, .slice p1 U0.text.length m1, .slice p2 U0.kids.length m2] 25)
    have b2' := b2.alloc (.cells #[.int .i64 U0.kind, .string U0.cons, .slice p1 U0.text.length m1, .slice p2 U0.kids.length m2] 25)
    have HB0 := hide b0'
    have HB1 := hide b1'
    have HB2 := hide b2'
    have HB5 := hide hB5
    have d0 := b0.cell 0
    have d1' := b0.cell 1
    have d2' := b0.cell 2
    have d3 := b0.cell 3
    have dl := b0.lt
    have hz5 : w.heap.size + 3 ≤ (w4.alloc (.cells #[.int .i64 U0.kind, .string U0.cons, .slice p1 U0.text.length m1, .slice p2 U0.kids.length m2] 25)).heap.size := by rw [World.size_alloc]; omega
    clear htr hat hX b0 b1 b2 b0' b1' b2' hB4 hB5
    go_wp2_with fail
    refine HC.out.mono ?_
    rintro e w6 ⟨⟨v', rfl, htree⟩, hb6⟩
    obtain ⟨x1, y1, x2, y2, rfl, _, _, _, _⟩ := htree.rt.open
    have hB6 := HB5.out.trans (hb6.mono HB5.out.size)
    have c0 := HB0.out.below hb6
    have c1' := HB1.out.below hb6
    have c2' := HB2.out.below hb6
    have hz6 := Nat.le_trans hz5 hb6.size
    obtain ⟨hl1, hl2, hl3⟩ := lay_facts (w := w6) (g := w.heap.size) (.int .i64 T.kind) (.string T.cons) (.slice x1 T.text.length y1) (.slice x2 T.kids.length y2)
    have HB7 := hide (hl1 (Nat.le_refl _) hB6)
    have HK0 := hide (Blk.lay (v0 := .int .i64 T.kind) (v1 := .string T.cons) (v2 := .slice x1 T.text.length y1) (v3 := .slice x2 T.kids.length y2) c0)
    have HK1 := hide (show Blk (lay4 w6 w.heap.size (.int .i64 T.kind) (.string T.cons) (.slice x1 T.text.length y1) (.slice x2 T.kids.length y2)) (w.heap.size + 1) _ 25 from (hl2 _ (by omega)).trans c1')
    have HK2 := hide (show Blk (lay4 w6 w.heap.size (.int .i64 T.kind) (.string T.cons) (.slice x1 T.text.length y1) (.slice x2 T.kids.length y2)) (w.heap.size + 1 + 1) _ 25 from (hl2 _ (by omega)).trans c2')
    have hT7 : Tree (lay4 w6 w.heap.size (.int .i64 T.kind) (.string T.cons) (.slice x1 T.text.length y1) (.slice x2 T.kids.length y2)) T (fun k => w.heap.size + 3 ≤ k) (.agg #[.int .i64 T.kind, .string T.cons, .slice x1 T.text.length y1, .slice x2 T.kids.length y2]) :=
      Tree.weak (fun k hk => Nat.le_trans hz5 hk) (Tree.keep ⟨by omega, fun j hj _ => hl2 j (by omega)⟩ htree)
    have HH := hide (hole_start hT7 HK0.out HRES.out)
    have t0 := c0.cell 0
    have t1 := c0.cell 1
    have t2 := c0.cell 2
    have t3 := c0.cell 3
    have s0 := c0.free 0
    have s1' := c0.free 1
    have s2' := c0.free 2
    have s3 := c0.free 3
    have tl := c0.lt
    clear c0 c1' c2' htree hb6 hB6 hT7 hl1 hl2 hl3 d0 d1' d2' d3 dl HC HB0 HB1 HB2 HB5 hz5 hz6
    go_upto_block 0 with fail
    change Code.wp _ _ _ _ (lay4 w6 w.heap.size (.int .i64 T.kind) (.string T.cons) (.slice x1 T.text.length y1) (.slice x2 T.kids.length y2))
    clear t0 t1 t2 t3 s0 s1' s2' s3 tl
    generalize lay4 w6 w.heap.size (.int .i64 T.kind) (.string T.cons) (.slice x1 T.text.length y1) (.slice x2 T.kids.length y2) = w7 at *
    have HRI7 := hide (HRI.out.below HB7.out)
    have HS7 := hide (HS.out _ HB7.out)
    have HB71 := hide HB7.out.size
    go_wp2_with fail
    go_loopg [10, 27] n (fun m v10 v27 wr => ∃ (k pb po : Nat) (U : Tm) (q1 : Option Addr) (f1 : Nat) (q2 : Option Addr) (f2 : Nat), Hid (m = n - k) ∧ v27 = .int .i64 (k : Int) ∧ v10 = .pointer (some ⟨pb, po, none⟩) ∧ wr = w7 ∧ Hid (k ≤ n) ∧ Hid (∃ V, atP U (l.drop k) = some V) ∧
      Hid (Hole w.heap.size res S l k U pb po (.int .i64 U.kind) (.string U.cons) (.slice q1 U.text.length f1) (.slice q2 U.kids.length f2) w7))
    case atStart => exact ⟨0, w.heap.size, 0, T, x1, y1, x2, y2, rfl, rfl, rfl, rfl, Nat.zero_le _, hide ⟨U0, HAX.out⟩, HH⟩
    case round =>
      obtain ⟨k, pb, po, U, q1, f1, q2, f2, hm, rfl, rfl, rfl, hk, hat, hh⟩ := hrel
      have hkn := hk.out
      have g0 := hh.out.c0
      have g1 := hh.out.c1
      have g2 := hh.out.c2
      have g3 := hh.out.c3
      have hpbl : pb < wr.heap.size := by
        obtain ⟨_, _, _, cur, hc, _⟩ := hh.out.ptr
        exact (Array.getElem?_eq_some_iff.1 hc).1
      by_cases hlt : k < n
      · have hlti : (k : Int) < (n : Int) := by omega
        have hk2 : k < l.length := by have := HN.out; omega
        obtain ⟨b, o, rfl, hbl, hcells⟩ := HRI7.out.at_ (by rintro rfl; simp at hk2)
        have hcell := hcells k hk2
        obtain ⟨V, hV⟩ := hat.out
        rw [List.drop_eq_getElem_cons hk2, atP_cons] at hV
        cases hka : kidAt U.kids l[k] with
        | none => rw [hka] at hV; cases hV
        | some V1 =>
          rw [hka] at hV
          obtain ⟨j, hj1, hj2, rfl⟩ := kidAt_some hka
          have HV := hide hV
          obtain ⟨b2, z1, r1, z2, r2, rfl, hb2l, hh2⟩ := hole_next hh.out hk2 hj1 hj2
          have HH2 := hide hh2
          have HJ := hide hj2
          rw [hj1] at hcell
          have hji : (j : Int) < (U.kids.length : Int) := by omega
          clear hcells hV hka hh2 hj1
          go_wp2_with fail
          go_roundg (n - (k + 1))
          case measure => rw [hm.out]; omega
          case rel => exact ⟨k + 1, b2, j * 4, _, z1, r1, z2, r2, rfl, rfl, rfl, rfl, hide (by omega), hide ⟨V, HV.out⟩, HH2⟩
      · have hlti : ¬ (k : Int) < (n : Int) := by omega
        have hdr : l.drop k = [] := List.drop_eq_nil_of_le (by have := HN.out; omega)
        have hz : w.heap.size + 3 ≤ wr.heap.size := by have := HK2.out.lt; omega
        have HC2 := hide (copied_any S hcS _ wr HS7.out)
        have t0 := HK1.out.cell 0
        have t1 := HK1.out.cell 1
        have t2 := HK1.out.cell 2
        have t3 := HK1.out.cell 3
        have tl := HK1.out.lt
        go_wp2_with fail
        refine HC2.out.mono ?_
        rintro e w8 ⟨⟨v', rfl, htree⟩, hb8⟩
        obtain ⟨z1, r1, z2, r2, rfl, _, _, _, _⟩ := htree.rt.open
        have HPE := hide (put_end hh.out hdr HE.out HB7.out hz HK2.out hb8 htree)
        have g0' := (hb8.cell (p := ⟨pb, po, none⟩) hpbl).trans g0
        have g1' := (hb8.cell (p := ⟨pb, po + 1, none⟩) hpbl).trans g1
        have g2' := (hb8.cell (p := ⟨pb, po + 2, none⟩) hpbl).trans g2
        have g3' := (hb8.cell (p := ⟨pb, po + 3, none⟩) hpbl).trans g3
        have hpbl8 := Nat.lt_of_lt_of_le hpbl hb8.size
        obtain ⟨y0, y1', y2', y3⟩ : w8.frozen? ⟨pb, po, none⟩ = false ∧ w8.frozen? ⟨pb, po + 1, none⟩ = false ∧ w8.frozen? ⟨pb, po + 2, none⟩ = false ∧ w8.frozen? ⟨pb, po + 3, none⟩ = false := by
          obtain ⟨_, _, _, cur, hc, _⟩ := hh.out.ptr
          have h8 := Blk.below (k := pb) (c := cur) (t := 25) hc hb8
          exact ⟨h8.free _, h8.free _, h8.free _, h8.free _⟩
        clear g0 g1 g2 g3 t0 t1 t2 t3 tl htree hb8 hdr hz
        go_upto_region 12 with fail
        obtain ⟨⟨h0, h1, h2, h3, ⟨f0', f1', f2', f3'⟩, hRT⟩, hRC, hBL, hBl0⟩ := HPE.out
        clear HPE g0' g1' g2' g3' y0 y1' y2' y3 hpbl8
        generalize ((((w8.setCell ⟨pb, po, none⟩ (.int .i64 S.kind)).setCell ⟨pb, po + 1, none⟩ (.string S.cons)).setCell ⟨pb, po + 2, none⟩ (.slice z1 S.text.length r1)).setCell ⟨pb, po + 3, none⟩ (.slice z2 S.kids.length r2)) = w9 at *
        obtain ⟨w1', m1', w2', m2', ev, _, _, _, _⟩ := hRT.open
        simp only [Value.agg.injEq, Array.mk.injEq, List.cons.injEq, and_true] at ev
        obtain ⟨rfl, rfl, rfl, rfl⟩ := ev
        have d0 := hRC.cell 0
        have d1' := hRC.cell 1
        have d2' := hRC.cell 2
        have d3 := hRC.cell 3
        have z0 := hRC.free 0
        have z1' := hRC.free 1
        have z2' := hRC.free 2
        have z3 := hRC.free 3
        have zl := hRC.lt
        obtain ⟨hl1, hl2, hl3⟩ := lay_facts (w := w9) (g := w.heap.size + 1 + 1) (.int .i64 X.kind) (.string X.cons) (.slice w1' X.text.length m1') (.slice w2' X.kids.length m2')
        have HBK := hide (Blk.lay (v0 := .int .i64 X.kind) (v1 := .string X.cons) (v2 := .slice w1' X.text.length m1') (v3 := .slice w2' X.kids.length m2') hRC)
        have HFB := hide (hl1 (by omega) hBL)
        have HFR := hide (show RTo (fun k => w.heap.size ≤ k) (lay4 w9 (w.heap.size + 1 + 1) (.int .i64 X.kind) (.string X.cons) (.slice w1' X.text.length m1') (.slice w2' X.kids.length m2')) X (.agg #[.int .i64 X.kind, .string X.cons, .slice w1' X.text.length m1', .slice w2' X.kids.length m2']) from
          RTo.weak (fun j hj => by omega) (RTo.keep (w := w9) (ok := fun k => w.heap.size + 3 ≤ k) ⟨by omega, fun j hj _ => hl2 j (by omega)⟩ hRT))
        clear hRT hRC hBL hl1 hl2 hl3
        go_wp2_with fail
        refine ret27 rfl rfl rfl HBK.out ⟨?_, HFB.out⟩
        rw [HE.out]
        exact ⟨_, rfl, HFR.out⟩
end Go.Proofs.Ytfndldfnlncabaa
