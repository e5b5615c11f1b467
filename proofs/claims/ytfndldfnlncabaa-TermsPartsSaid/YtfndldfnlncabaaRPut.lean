/- The walk of the reference's Put. -/
import Derived.Test.YtfndldfnlncabaaRAt
import Derived.Deep.RegionHeld3
set_option linter.unusedVariables false
set_option linter.unusedSimpArgs false
set_option linter.unnecessarySimpa false
set_option linter.deprecated false
namespace Go.Proofs.Ytfndldfnlncabaa
open Go.RowKit

theorem ret28 {R : Ending → World → Prop} {a : Act} {W : World} {k : Nat} {v0 v1 v2 v3 : Value} {c : Int} (h4 : (a.tmps[6]?).getD undef = .pointer (some ⟨k, 0, none⟩)) (h5 : (a.tmps[7]?).getD undef = .int .i64 c) (hd : a.defers = []) (hb : Blk W k #[v0, v1, v2, v3] 25) (hR : R (.returned (.tuple #[.agg #[v0, v1, v2, v3], .int .i64 c])) W) : bodyPost Try.prog Try.f28 R .ret a W := by
  have f0 : W.cell? ⟨k, 0, none⟩ = some v0 := hb.cell 0
  have f1 : W.cell? ⟨k, 1, none⟩ = some v1 := hb.cell 1
  have f2 : W.cell? ⟨k, 2, none⟩ = some v2 := hb.cell 2
  have f3 : W.cell? ⟨k, 3, none⟩ = some v3 := hb.cell 3
  refine bodyPost_ret (v := .tuple #[.agg #[v0, v1, v2, v3], .int .i64 c]) ?_ hd hR
  simp [results, Try.results28, h4, h5, go_sem, f0, f1, f2, f3]
/-- A kid of a term that lies apart can be written over. -/
theorem tree_setkid {w : World} {T : Tm} {P ok : Nat → Prop} {x1 x2 : Option Addr} {m1 m2 j : Nat} (h : Tree w T P (.agg #[.int .i64 T.kind, .string T.cons, .slice x1 T.text.length m1, .slice x2 T.kids.length m2])) (hj : j < T.kids.length) (hok : ∀ k, P k → ok k) :
    ∃ b cur, x2 = some ⟨b, 0, none⟩ ∧ P b ∧ w.heap[b]? = some (.cells cur 25 (0, 0)) ∧ j * 4 + 4 ≤ cur.size ∧
      ∀ (w' : World) (V : Tm) (s0 s1 s2 s3 : Value), Keep (fun k => P k ∧ k ≠ b) w w' → (∀ i, (i < j * 4 ∨ j * 4 + 4 ≤ i) → w'.cell? ⟨b, i, none⟩ = w.cell? ⟨b, i, none⟩) →
        w'.cell? ⟨b, j * 4, none⟩ = some s0 → w'.cell? ⟨b, j * 4 + 1, none⟩ = some s1 → w'.cell? ⟨b, j * 4 + 2, none⟩ = some s2 → w'.cell? ⟨b, j * 4 + 3, none⟩ = some s3 → RTo ok w' V (.agg #[s0, s1, s2, s3]) →
        RTo ok w' (setKid T j V) (.agg #[.int .i64 T.kind, .string T.cons, .slice x1 T.text.length m1, .slice x2 T.kids.length m2]) := by
  obtain ⟨kd, cs, tx, ks⟩ := T
  have hj' : j < ks.length := hj
  rw [Tree] at h
  simp only [Tm.kind, Tm.cons, Tm.text, Tm.kids] at *
  obtain ⟨y1, d1, y2, d2, ev, hkd, hcs, htx, hkl, hkids⟩ := h
  simp only [Value.agg.injEq, Array.mk.injEq, List.cons.injEq, and_true, true_and, Value.slice.injEq] at ev
  obtain ⟨⟨rfl, rfl⟩, rfl, rfl⟩ := ev
  obtain ⟨b, cur, rfl, hPb, hcur, hcsz, hne, hts⟩ := hkids (by rintro rfl; simp at hj')
  have hbl : b < w.heap.size := (Array.getElem?_eq_some_iff.1 hcur).1
  obtain ⟨v0, v1, v2, v3, Q', _, _, hQ', hput⟩ := Trees.at_ (ok := ok) j hj' (fun k hk => hok k hk.1) hts
  refine ⟨b, cur, rfl, hPb, hcur, by omega, fun w' V s0 s1 s2 s3 hkeep hcells g0 g1 g2 g3 hV => ?_⟩
  unfold setKid
  rw [RTo]
  simp only [Tm.kind, Tm.cons, Tm.text, Tm.kids]
  refine ⟨x1, m1, some ⟨b, 0, none⟩, m2, by rw [List.length_set], hkd, hcs, RBo.weak hok (TBo.rb (?_ : TBo P w' x1 tx)), by rw [List.length_set]; exact hkl, fun hn => ⟨b, 0, rfl, hok b hPb, Nat.lt_of_lt_of_le hbl hkeep.size, ?_⟩⟩
  · refine ⟨htx.1, fun hn => ?_⟩
    obtain ⟨tb, cur2, e, hp, hh, hc⟩ := htx.2 hn
    have hne2 : tb ≠ b := fun h => hne (by rw [e, ← h]; rfl)
    exact ⟨tb, cur2, e, hp, (hkeep.block tb ⟨hp, hne2⟩ (Array.getElem?_eq_some_iff.1 hh).1).trans hh, hc⟩
  · exact hput w' V s0 s1 s2 s3 ⟨hkeep.size, fun k hk hlt => hkeep.block k ⟨hk.1.1, hk.1.2.1⟩ hlt⟩ (fun i _ _ h3 => hcells i (by omega)) (by rw [Nat.zero_add]; exact g0) (by rw [Nat.zero_add]; exact g1) (by rw [Nat.zero_add]; exact g2) (by rw [Nat.zero_add]; exact g3) hV

mutual
theorem rto_low {w : World} {ok : Nat → Prop} : ∀ {T : Tm} {v : Value}, RTo ok w T v → RTo (fun k => ok k ∧ k < w.heap.size) w T v
  | .mk k c t ks, v, h => by
    rw [RTo] at h ⊢
    obtain ⟨a1, c1, a2, c2, e, h1, h2, h3, h4, h5⟩ := h
    refine ⟨a1, c1, a2, c2, e, h1, h2, ⟨h3.1, fun hn => ?_⟩, h4, fun hn => ?_⟩
    · obtain ⟨b, o, e, ho, hb, hr⟩ := h3.2 hn
      exact ⟨b, o, e, ⟨ho, hb⟩, hb, hr⟩
    · obtain ⟨b, o, e, ho, hb, hr⟩ := h5 hn
      exact ⟨b, o, e, ⟨ho, hb⟩, hb, rtos_low hr⟩
theorem rtos_low {w : World} {ok : Nat → Prop} {b : Nat} : ∀ {ks : List Tm} {o : Nat}, RTos ok w b o ks → RTos (fun k => ok k ∧ k < w.heap.size) w b o ks
  | [], _, _ => by rw [RTos]; trivial
  | x :: xs, o, h => by
    rw [RTos] at h ⊢
    obtain ⟨⟨v0, v1, v2, v3, h0, h1, h2, h3, hx⟩, hr⟩ := h
    exact ⟨⟨v0, v1, v2, v3, h0, h1, h2, h3, rto_low hx⟩, rtos_low hr⟩
end
/-- What stands behind the inner call. -/
structure RP5 (wc : World) (r : Option Tm) (nb : Nat) (k0 : Int) (k1 : ByteArray) (s1 : Option Addr) (n1 m1 : Nat) (s2 : Option Addr) (n2 m2 : Nat) (c : Int) (wd : World) : Prop where
  below : Below wc.heap.size wc wd
  blk : Blk wd nb #[.int .i64 k0, .string k1, .slice s1 n1 m1, .slice s2 n2 m2] 25
  at_ : wc.heap.size ≤ nb
  res : match r with | some V => c = 0 ∧ RTo (fun k => wc.heap.size ≤ k ∧ k ≠ nb) wd V (.agg #[.int .i64 k0, .string k1, .slice s1 n1 m1, .slice s2 n2 m2]) | none => c = 4
theorem put_tuple {w w5 : World} {r : Option Tm} {v : Value} {c : Int} (h : PutP w r (.returned (.tuple #[v, .int .i64 c])) w5) : match r with | some V => c = 0 ∧ RTo (fun k => w.heap.size ≤ k) w5 V v | none => c = 4 := by
  have h6 := h.1
  cases r with
  | none =>
    injection h6 with e
    simp only [Value.tuple.injEq, Array.mk.injEq, List.cons.injEq, and_true, Value.int.injEq, true_and] at e
    exact e.2
  | some V =>
    obtain ⟨v', e, htr⟩ := h6
    injection e with e
    simp only [Value.tuple.injEq, Array.mk.injEq, List.cons.injEq, and_true, Value.int.injEq, true_and] at e
    obtain ⟨rfl, rfl⟩ := e
    exact ⟨rfl, htr⟩
theorem rp5_after {wc w5 : World} {r : Option Tm} {k0 : Int} {k1 : ByteArray} {s1 : Option Addr} {n1 m1 : Nat} {s2 : Option Addr} {n2 m2 : Nat} {c : Int}
    (h : PutP wc.drew r (.returned (.tuple #[.agg #[.int .i64 k0, .string k1, .slice s1 n1 m1, .slice s2 n2 m2], .int .i64 c])) w5) : RP5 wc r w5.heap.size k0 k1 s1 n1 m1 s2 n2 m2 c (w5.alloc (.cells #[.int .i64 k0, .string k1, .slice s1 n1 m1, .slice s2 n2 m2] 25)) := by
  have hb : Below wc.heap.size wc w5 := ⟨h.2.os, h.2.tape, h.2.output, h.2.size, h.2.block⟩
  refine ⟨hb.alloc hb.size _, Blk.new _ _ _, hb.size, ?_⟩
  have h6 := put_tuple h
  cases r with
  | none => exact h6
  | some V =>
    refine ⟨h6.1, RTo.keep (Keep.refl _ _).allocS ?_⟩
    have h7 : RTo (fun k => wc.heap.size ≤ k) w5 V (.agg #[.int .i64 k0, .string k1, .slice s1 n1 m1, .slice s2 n2 m2]) := h6.2
    exact RTo.weak (fun k hk => ⟨hk.1, by omega⟩) (rto_low h7)
theorem rp5_ahead {wc w5 : World} {r : Option Tm} {k0 : Int} {k1 : ByteArray} {s1 : Option Addr} {n1 m1 : Nat} {s2 : Option Addr} {n2 m2 : Nat} {c : Int}
    (h : PutP (wc.drew.alloc (.cells #[.int .i64 0, .string emptyB, .slice none 0 0, .slice none 0 0] 25)) r (.returned (.tuple #[.agg #[.int .i64 k0, .string k1, .slice s1 n1 m1, .slice s2 n2 m2], .int .i64 c])) w5) (hk : Blk w5 wc.heap.size #[.int .i64 0, .string emptyB, .slice none 0 0, .slice none 0 0] 25) :
    RP5 wc r wc.heap.size k0 k1 s1 n1 m1 s2 n2 m2 c (lay4 w5 wc.heap.size (.int .i64 k0) (.string k1) (.slice s1 n1 m1) (.slice s2 n2 m2)) := by
  have hb0 : Below wc.heap.size wc (wc.drew.alloc (.cells #[.int .i64 0, .string emptyB, .slice none 0 0, .slice none 0 0] 25)) := (Below.drew (Below.refl _ _)).alloc (Nat.le_refl _) _
  have hb : Below wc.heap.size wc w5 := hb0.trans (h.2.mono hb0.size)
  refine ⟨lay_below _ _ _ _ (Nat.le_refl _) hb, Blk.lay hk, Nat.le_refl _, ?_⟩
  have h6 := put_tuple h
  cases r with
  | none => exact h6
  | some V =>
    refine ⟨h6.1, RTo.keep ⟨by unfold lay4; simp [size_setCell], fun k hk2 _ => ?_⟩ (RTo.weak (fun k hk2 => ?_) h6.2)⟩
    · have hne : k ≠ wc.heap.size := hk2.2
      unfold lay4
      rw [Below.heap_setCell _ _ _ _ hne, Below.heap_setCell _ _ _ _ hne, Below.heap_setCell _ _ _ _ hne, Below.heap_setCell _ _ _ _ hne]
    · have hsz : (wc.drew.alloc (.cells #[.int .i64 0, .string emptyB, .slice none 0 0, .slice none 0 0] 25)).heap.size = wc.heap.size + 1 := by rw [World.size_alloc]; rfl
      rw [hsz] at hk2
      omega

/-- What stands ahead of the writing of the kid, and behind it. -/
structure RMid (w : World) (T V : Tm) (j nb g bk : Nat) (x1 : Option Addr) (d1 d2 : Nat) (k0 : Int) (k1 : ByteArray) (s1 : Option Addr) (n1 m1 : Nat) (s2 : Option Addr) (n2 m2 : Nat) (W : World) : Prop where
  below : Below w.heap.size w W
  own : Blk W g #[.int .i64 T.kind, .string T.cons, .slice x1 T.text.length d1, .slice (some ⟨bk, 0, none⟩) T.kids.length d2] 25
  kid : Blk W nb #[.int .i64 k0, .string k1, .slice s1 n1 m1, .slice s2 n2 m2] 25
  cells : ∃ cur, Blk W bk cur 25 ∧ j * 4 + 4 ≤ cur.size
  at_ : w.heap.size ≤ bk
  aside : bk ≠ g ∧ bk ≠ nb
  belowF : Below w.heap.size w ((((W.drew.setCell ⟨bk, j * 4, none⟩ (.int .i64 k0)).setCell ⟨bk, j * 4 + 1, none⟩ (.string k1)).setCell ⟨bk, j * 4 + 2, none⟩ (.slice s1 n1 m1)).setCell ⟨bk, j * 4 + 3, none⟩ (.slice s2 n2 m2))
  ownF : Blk ((((W.drew.setCell ⟨bk, j * 4, none⟩ (.int .i64 k0)).setCell ⟨bk, j * 4 + 1, none⟩ (.string k1)).setCell ⟨bk, j * 4 + 2, none⟩ (.slice s1 n1 m1)).setCell ⟨bk, j * 4 + 3, none⟩ (.slice s2 n2 m2)) g #[.int .i64 T.kind, .string T.cons, .slice x1 T.text.length d1, .slice (some ⟨bk, 0, none⟩) T.kids.length d2] 25
  kidF : Blk ((((W.drew.setCell ⟨bk, j * 4, none⟩ (.int .i64 k0)).setCell ⟨bk, j * 4 + 1, none⟩ (.string k1)).setCell ⟨bk, j * 4 + 2, none⟩ (.slice s1 n1 m1)).setCell ⟨bk, j * 4 + 3, none⟩ (.slice s2 n2 m2)) nb #[.int .i64 k0, .string k1, .slice s1 n1 m1, .slice s2 n2 m2] 25
  resF : Blk ((((W.drew.setCell ⟨bk, j * 4, none⟩ (.int .i64 k0)).setCell ⟨bk, j * 4 + 1, none⟩ (.string k1)).setCell ⟨bk, j * 4 + 2, none⟩ (.slice s1 n1 m1)).setCell ⟨bk, j * 4 + 3, none⟩ (.slice s2 n2 m2)) (w.heap.size + 1 + 1) #[.int .i64 0, .string emptyB, .slice none 0 0, .slice none 0 0] 25
  fin : RTo (fun k => w.heap.size + 3 ≤ k) ((((W.drew.setCell ⟨bk, j * 4, none⟩ (.int .i64 k0)).setCell ⟨bk, j * 4 + 1, none⟩ (.string k1)).setCell ⟨bk, j * 4 + 2, none⟩ (.slice s1 n1 m1)).setCell ⟨bk, j * 4 + 3, none⟩ (.slice s2 n2 m2)) (setKid T j V) (.agg #[.int .i64 T.kind, .string T.cons, .slice x1 T.text.length d1, .slice (some ⟨bk, 0, none⟩) T.kids.length d2])

theorem rput_mid {w wc wd w6 : World} {T V : Tm} {nb j : Nat} {k0 : Int} {k1 : ByteArray} {s1 : Option Addr} {n1 m1 : Nat} {s2 : Option Addr} {n2 m2 : Nat} {c : Int} {x1 x2 : Option Addr} {d1 d2 : Nat}
    (hr : RP5 wc (some V) nb k0 k1 s1 n1 m1 s2 n2 m2 c wd) (hw : Below w.heap.size w wc) (hz : w.heap.size + 1 + 1 < wc.heap.size) (hk2 : Blk wc (w.heap.size + 1 + 1) #[.int .i64 0, .string emptyB, .slice none 0 0, .slice none 0 0] 25)
    (ht : Tree w6 T (fun k => wd.heap.size ≤ k) (.agg #[.int .i64 T.kind, .string T.cons, .slice x1 T.text.length d1, .slice x2 T.kids.length d2])) (hb6 : Below wd.heap.size wd w6) (hj : j < T.kids.length) :
    ∃ bk, x2 = some ⟨bk, 0, none⟩ ∧ RMid w T V j nb w6.heap.size bk x1 d1 d2 k0 k1 s1 n1 m1 s2 n2 m2 (w6.alloc (.cells #[.int .i64 T.kind, .string T.cons, .slice x1 T.text.length d1, .slice x2 T.kids.length d2] 25)) := by
  obtain ⟨bk, cur, rfl, hP, hcur, hsz, hput⟩ := tree_setkid (ok := fun k => w.heap.size + 3 ≤ k) ht hj (fun k hk => by have := hr.below.size; omega)
  refine ⟨bk, rfl, ?_⟩
  have hbl : bk < w6.heap.size := (Array.getElem?_eq_some_iff.1 hcur).1
  have hcs := hr.below.size
  have hds := hb6.size
  have hnb := hr.blk.lt
  have hown : Blk (w6.alloc (.cells #[.int .i64 T.kind, .string T.cons, .slice x1 T.text.length d1, .slice (some ⟨bk, 0, none⟩) T.kids.length d2] 25)) w6.heap.size #[.int .i64 T.kind, .string T.cons, .slice x1 T.text.length d1, .slice (some ⟨bk, 0, none⟩) T.kids.length d2] 25 := Blk.new _ _ _
  have hkid : Blk (w6.alloc (.cells #[.int .i64 T.kind, .string T.cons, .slice x1 T.text.length d1, .slice (some ⟨bk, 0, none⟩) T.kids.length d2] 25)) nb _ 25 := (hr.blk.below hb6).alloc _
  have hres : Blk (w6.alloc (.cells #[.int .i64 T.kind, .string T.cons, .slice x1 T.text.length d1, .slice (some ⟨bk, 0, none⟩) T.kids.length d2] 25)) (w.heap.size + 1 + 1) _ 25 := ((hk2.below hr.below).below hb6).alloc _
  have hcb : Blk (w6.alloc (.cells #[.int .i64 T.kind, .string T.cons, .slice x1 T.text.length d1, .slice (some ⟨bk, 0, none⟩) T.kids.length d2] 25)) bk cur 25 := Blk.alloc (w := w6) hcur _
  have hsz7 : (w6.alloc (.cells #[.int .i64 T.kind, .string T.cons, .slice x1 T.text.length d1, .slice (some ⟨bk, 0, none⟩) T.kids.length d2] 25)).heap.size = w6.heap.size + 1 := World.size_alloc _ _
  have hbd : Below w.heap.size w wd := hw.trans (hr.below.mono hw.size)
  have hb6' : Below w.heap.size w w6 := hbd.trans (hb6.mono hbd.size)
  have hb7 : Below w.heap.size w (w6.alloc (.cells #[.int .i64 T.kind, .string T.cons, .slice x1 T.text.length d1, .slice (some ⟨bk, 0, none⟩) T.kids.length d2] 25)) := hb6'.alloc hb6'.size _
  have hsame : ∀ k, k < w6.heap.size → (w6.alloc (.cells #[.int .i64 T.kind, .string T.cons, .slice x1 T.text.length d1, .slice (some ⟨bk, 0, none⟩) T.kids.length d2] 25)).heap[k]? = w6.heap[k]? := fun k hk => ((Below.refl w6.heap.size w6).alloc (Nat.le_refl _) _).block k hk
  generalize (w6.alloc (.cells #[.int .i64 T.kind, .string T.cons, .slice x1 T.text.length d1, .slice (some ⟨bk, 0, none⟩) T.kids.length d2] 25)) = W at *
  have hcd : W.drew.heap[bk]? = some (.cells cur 25 (0, 0)) := hcb
  obtain ⟨⟨cur', hcur9, hsz', hout, e0, e1, e2, e3⟩, hsz9, hoth⟩ := four_set (y0 := .int .i64 k0) (y1 := .string k1) (y2 := .slice s1 n1 m1) (y3 := .slice s2 n2 m2) hcd (o := j * 4) hsz
  have hbk : w.heap.size ≤ bk := by omega
  have hbdr : Below w.heap.size w W.drew := Below.drew hb7
  have hB9 : Below w.heap.size w ((((W.drew.setCell ⟨bk, j * 4, none⟩ (.int .i64 k0)).setCell ⟨bk, j * 4 + 1, none⟩ (.string k1)).setCell ⟨bk, j * 4 + 2, none⟩ (.slice s1 n1 m1)).setCell ⟨bk, j * 4 + 3, none⟩ (.slice s2 n2 m2)) :=
    (((hbdr.setCell (p := ⟨bk, j * 4, none⟩) hbk _).setCell (p := ⟨bk, j * 4 + 1, none⟩) hbk _).setCell (p := ⟨bk, j * 4 + 2, none⟩) hbk _).setCell (p := ⟨bk, j * 4 + 3, none⟩) hbk _
  have hszd : W.drew.heap.size = W.heap.size := rfl
  refine ⟨hb7, hown, hkid, ⟨cur, hcb, hsz⟩, by omega, ⟨by omega, by omega⟩, hB9, ?_, ?_, ?_, ?_⟩
  · exact (hoth _ (by omega)).trans hown
  · exact (hoth _ (by omega)).trans hkid
  · exact (hoth _ (by omega)).trans hres
  · have hVr := hr.res.2
    refine hput _ V _ _ _ _ ⟨by omega, fun k hk hlt => (hoth k hk.2).trans (hsame k hlt)⟩ (fun i hi => by rw [cell_at hcur9, cell_at hcur, hout i hi]) (by rw [cell_at hcur9]; exact e0) (by rw [cell_at hcur9]; exact e1) (by rw [cell_at hcur9]; exact e2) (by rw [cell_at hcur9]; exact e3) ?_
    refine RTo.weak (fun k hk => ?_) (RTo.keep (w := wd) (ok := fun k => (wc.heap.size ≤ k ∧ k ≠ nb) ∧ k < wd.heap.size) ⟨by omega, fun k hk _ => ?_⟩ (rto_low hVr))
    · omega
    · exact (hoth k (by omega)).trans ((hsame k (by omega)).trans (hb6.block k hk.2))

theorem PutP.below {w w' : World} {r : Option Tm} {e : Ending} (h : PutP w r e w') : Below w.heap.size w w' := h.2
set_option maxHeartbeats 4000000 in
set_option maxRecDepth 100000 in
theorem rput_any : ∀ (l : List Int) (T S : Tm) (v u s : Value) (w : World), cnt T ≤ 1000000 → cnt S ≤ 1000000 → RT w T v → RVc w l u → RT w S s → Calls Try.prog 28 #[v, u, s] w (PutP w (putP T l S)) := by
  intro l
  induction l with
  | nil =>
    intro T S v u s w hc hcS hT hL hS
    obtain ⟨a1, c1, a2, c2, rfl, _, _, _, _⟩ := hT.open
    obtain ⟨g1, f1, g2, f2, rfl, _, _, _, _⟩ := hS.open
    obtain ⟨al, cl, rfl, _, _⟩ := hL
    obtain ⟨hb0, hb1, hb2, hB, hsz⟩ := three_blk w #[.int .i64 T.kind, .string T.cons, .slice a1 T.text.length c1, .slice a2 T.kids.length c2] #[.int .i64 S.kind, .string S.cons, .slice g1 S.text.length f1, .slice g2 S.kids.length f2] #[.int .i64 0, .string emptyB, .slice none 0 0, .slice none 0 0]
    have HC := hide (copyT_any S hcS _ _ (RT.below hB hS))
    have HB := hide hB
    have HB2 := hide hb2
    have hP0 : putP T [] S = some S := by cases T; rfl
    rw [hP0]
    have HSZ := hide hsz
    clear hT hS hb0 hb1 hb2 hB hsz hP0
    go_enter Try.func28, Try.ntmps28
    go_wp2_with fail
    refine HC.out.mono ?_
    rintro e w5 ⟨⟨v', rfl, htree⟩, hb5⟩
    obtain ⟨p1, m1, p2, m2, rfl, _, _, _, _⟩ := htree.rt.open
    have hcl := HB2.out.below hb5
    have d0 := hcl.cell 0
    have d1 := hcl.cell 1
    have d2 := hcl.cell 2
    have d3 := hcl.cell 3
    have z0 := hcl.free 0
    have z1 := hcl.free 1
    have z2 := hcl.free 2
    have z3 := hcl.free 3
    have dl := hcl.lt
    have hz3 := HSZ.out
    have HK := hide (Blk.lay (v0 := .int .i64 S.kind) (v1 := .string S.cons) (v2 := .slice p1 S.text.length m1) (v3 := .slice p2 S.kids.length m2) hcl)
    have HP := hide (show PutP w (some S) (.returned (.tuple #[.agg #[.int .i64 S.kind, .string S.cons, .slice p1 S.text.length m1, .slice p2 S.kids.length m2], .int .i64 0])) (lay4 w5 (w.heap.size + 1 + 1) (.int .i64 S.kind) (.string S.cons) (.slice p1 S.text.length m1) (.slice p2 S.kids.length m2)) from
      ⟨⟨_, rfl, RTo.weak (fun k hk => by omega) (Tree.rt (lay_tree _ _ _ _ htree (by omega)))⟩, lay_below _ _ _ _ (by omega) (HB.out.trans (hb5.mono HB.out.size))⟩)
    clear hcl htree hb5 HC hz3
    go_wp2_with fail
    exact ret28 rfl rfl rfl HK.out HP.out
  | cons i p ih =>
    intro T S v u s w hc hcS hT hL hS
    obtain ⟨a1, c1, a2, c2, rfl, _, _, _, hks⟩ := hT.open
    obtain ⟨g1, f1, g2, f2, rfl, _, _, _, _⟩ := hS.open
    obtain ⟨al, cl, rfl, hcl, hRI⟩ := hL
    obtain ⟨b, o, rfl, hbl, hcells⟩ := hRI.at_ (by simp)
    have hc0 := hcells 0 (by simp)
    rw [List.getElem_cons_zero, Nat.add_zero] at hc0
    obtain ⟨hb0, hb1, hb2, hB, hsz⟩ := three_blk w #[.int .i64 T.kind, .string T.cons, .slice a1 T.text.length c1, .slice a2 T.kids.length c2] #[.int .i64 S.kind, .string S.cons, .slice g1 S.text.length f1, .slice g2 S.kids.length f2] #[.int .i64 0, .string emptyB, .slice none 0 0, .slice none 0 0]
    obtain ⟨n, hn⟩ : ∃ n, (i :: p).length = n := ⟨_, rfl⟩
    have hn2 : n = p.length + 1 := by rw [← hn]; rfl
    have hlen := hRI.len
    rw [hn] at hcl hlen ⊢
    have hc1 := (hB.cell (p := ⟨b, o, none⟩) hbl).trans hc0
    have hbl1 := Nat.lt_of_lt_of_le hbl hB.size
    have hc2 : (((w.alloc (.cells #[.int .i64 T.kind, .string T.cons, .slice a1 T.text.length c1, .slice a2 T.kids.length c2] 25)).alloc (.cells #[.int .i64 S.kind, .string S.cons, .slice g1 S.text.length f1, .slice g2 S.kids.length f2] 25)).alloc (.cells #[.int .i64 0, .string ⟨#[]⟩, .slice none 0 0, .slice none 0 0] 25)).cell? ⟨b, o, none⟩ = some (.int .i64 i) := hc1
    have hbl2 : b < (((w.alloc (.cells #[.int .i64 T.kind, .string T.cons, .slice a1 T.text.length c1, .slice a2 T.kids.length c2] 25)).alloc (.cells #[.int .i64 S.kind, .string S.cons, .slice g1 S.text.length f1, .slice g2 S.kids.length f2] 25)).alloc (.cells #[.int .i64 0, .string ⟨#[]⟩, .slice none 0 0, .slice none 0 0] 25)).heap.size := hbl1
    have hn0 : ((n : Int) == 0) = false := by rw [beq_eq_false_iff_ne]; omega
    have HB := hide hB
    have HB2 := hide hb2
    have HN2 := hide hn2
    have hlen2 : n ≤ 17592186043904 := hlen
    have hnp : (0 : Int) < (n : Int) := by omega
    have hnp2 : 0 < n := by omega
    have hnp3 : ¬ n = 0 := by omega
    have hnp4 : ¬ (n : Int) ≤ 0 := by omega
    clear hn2 hn
    have HAT := hide (putP_cons T i p S)
    have HKZ := hide (fun q => Blk.lay (w := World.drewN (((w.alloc (.cells #[.int .i64 T.kind, .string T.cons, .slice a1 T.text.length c1, .slice a2 T.kids.length c2] 25)).alloc (.cells #[.int .i64 S.kind, .string S.cons, .slice g1 S.text.length f1, .slice g2 S.kids.length f2] 25)).alloc (.cells #[.int .i64 0, .string emptyB, .slice none 0 0, .slice none 0 0] 25)) q) (v0 := .int .i64 0) (v1 := .string emptyB) (v2 := .slice none 0 0) (v3 := .slice none 0 0) (show Blk (World.drewN (((w.alloc (.cells #[.int .i64 T.kind, .string T.cons, .slice a1 T.text.length c1, .slice a2 T.kids.length c2] 25)).alloc (.cells #[.int .i64 S.kind, .string S.cons, .slice g1 S.text.length f1, .slice g2 S.kids.length f2] 25)).alloc (.cells #[.int .i64 0, .string emptyB, .slice none 0 0, .slice none 0 0] 25)) q) (w.heap.size + 1 + 1) _ 25 from HB2.out))
    have HBZ := hide (fun q => lay_below (w := World.drewN (((w.alloc (.cells #[.int .i64 T.kind, .string T.cons, .slice a1 T.text.length c1, .slice a2 T.kids.length c2] 25)).alloc (.cells #[.int .i64 S.kind, .string S.cons, .slice g1 S.text.length f1, .slice g2 S.kids.length f2] 25)).alloc (.cells #[.int .i64 0, .string emptyB, .slice none 0 0, .slice none 0 0] 25)) q) (g := w.heap.size + 1 + 1) (.int .i64 0) (.string emptyB) (.slice none 0 0) (.slice none 0 0) (B := w.heap.size) (by omega) (show Below w.heap.size w (World.drewN (((w.alloc (.cells #[.int .i64 T.kind, .string T.cons, .slice a1 T.text.length c1, .slice a2 T.kids.length c2] 25)).alloc (.cells #[.int .i64 S.kind, .string S.cons, .slice g1 S.text.length f1, .slice g2 S.kids.length f2] 25)).alloc (.cells #[.int .i64 0, .string emptyB, .slice none 0 0, .slice none 0 0] 25)) q) from ⟨HB.out.os, HB.out.tape, HB.out.output, HB.out.size, HB.out.block⟩))
    by_cases hneg : i < 0
    · have HE := hide (show putP T (i :: p) S = none by rw [HAT.out]; unfold kidAt; rw [if_neg (by omega)])
      go_enter Try.func28, Try.ntmps28
      go_upto_region 3 with fail
      go_quiet (fail)
      go_wp2_with fail
      refine ret28 rfl rfl rfl (HKZ.out _) ⟨?_, HBZ.out _⟩
      rw [HE.out]
    · by_cases hge : (T.kids.length : Int) ≤ i
      · have HE := hide (show putP T (i :: p) S = none by rw [HAT.out]; unfold kidAt; rw [if_pos (by omega), List.getElem?_eq_none (by omega)])
        go_enter Try.func28, Try.ntmps28
        go_upto_region 3 with fail
        go_quiet (fail)
        go_wp2_with fail
        refine ret28 rfl rfl rfl (HKZ.out _) ⟨?_, HBZ.out _⟩
        rw [HE.out]
      · obtain ⟨j, rfl⟩ : ∃ j : Nat, i = (j : Int) := ⟨i.toNat, by omega⟩
        have hj : j < T.kids.length := by omega
        have hji : (j : Int) < (T.kids.length : Int) := by omega
        have HE := hide (show putP T ((j : Int) :: p) S = (putP T.kids[j] p S).map (setKid T j) by rw [HAT.out, kidAt_nat _ j hj]; rfl)
        rw [HE.out]
        have hcT : cnt T.kids[j] ≤ 1000000 := by
          have h1 := cntL_mem (List.getElem_mem hj)
          have h3 : cnt T = 1 + cntL T.kids := by cases T; rw [cnt]; rfl
          omega
        have hnsub : n - 1 = p.length := by have := HN2.out; omega
        have hn1 : (1 : Int) ≤ (n : Int) := by omega
        have hncl : (n : Int) ≤ (cl : Int) := by omega
        have HKS := hide hks
        have HRI := hide hRI
        have HB0 := hide hb0
        have HB1 := hide hb1
        have HTT := hide (fun W (h : Below w.heap.size w W) => RT.below h hT)
        have HSS := hide (fun W (h : Below w.heap.size w W) => RT.below h hS)
        clear HAT HE hc1 hb0 hb1 hb2 hB hT hS hks HKZ HBZ
        go_enter Try.func28, Try.ntmps28
        go_upto_region 3 with fail
        go_cut [28] (fun v28 wc => v28 = .bool false ∧ Hid (Below w.heap.size w wc ∧ Blk wc w.heap.size #[.int .i64 T.kind, .string T.cons, .slice a1 T.text.length c1, .slice a2 T.kids.length c2] 25 ∧ Blk wc (w.heap.size + 1) #[.int .i64 S.kind, .string S.cons, .slice g1 S.text.length f1, .slice g2 S.kids.length f2] 25 ∧ Blk wc (w.heap.size + 1 + 1) #[.int .i64 0, .string emptyB, .slice none 0 0, .slice none 0 0] 25))
        case first =>
          go_quiet (fail)
          go_wp2_with fail
          go_meet
          exact ⟨rfl, ⟨HB.out.os, HB.out.tape, HB.out.output, HB.out.size, HB.out.block⟩, HB0.out, HB1.out, HB2.out⟩
        case rest =>
          obtain ⟨rfl, hcut⟩ := hcut
          have hBw := hcut.out.1
          have h0 := hcut.out.2.1
          have h1 := hcut.out.2.2.1
          have h2 := hcut.out.2.2.2
          obtain ⟨b2, o2, p1, q1, p2, q2, rfl, hbl3, e0, e1, e2, e3, hx⟩ := HKS.out.get j hj
          have e0' := (hBw.cell (p := ⟨b2, o2 + j * 4, none⟩) hbl3).trans e0
          have e1' := (hBw.cell (p := ⟨b2, o2 + j * 4 + 1, none⟩) hbl3).trans e1
          have e2' := (hBw.cell (p := ⟨b2, o2 + j * 4 + 2, none⟩) hbl3).trans e2
          have e3' := (hBw.cell (p := ⟨b2, o2 + j * 4 + 3, none⟩) hbl3).trans e3
          have hbl4 := Nat.lt_of_lt_of_le hbl3 hBw.size
          have hcp := (hBw.cell (p := ⟨b, o, none⟩) hbl).trans hc0
          have hbl5 := Nat.lt_of_lt_of_le hbl hBw.size
          have t3 := h0.cell 3
          have tl := h0.lt
          have s0 := h1.cell 0
          have s1 := h1.cell 1
          have s2 := h1.cell 2
          have s3 := h1.cell 3
          have sl := h1.lt
          obtain ⟨oo, oc, hor, hoc, hoo⟩ : ∃ oo oc, ((cl = 1 ∧ oo = o ∧ oc = 0) ∨ (¬ cl = 1 ∧ oo = o + 1 ∧ oc = cl - 1)) ∧ p.length ≤ oc ∧ RI w (some ⟨b, oo, none⟩) p := by
            by_cases h9 : cl = 1
            · have hp0 : p = [] := List.eq_nil_of_length_eq_zero (by have := HN2.out; omega)
              exact ⟨o, 0, Or.inl ⟨h9, rfl, rfl⟩, by rw [hp0]; simp, by subst hp0; exact ⟨by simp, (fun x hx => by cases hx), fun hn => absurd rfl hn⟩⟩
            · exact ⟨o + 1, cl - 1, Or.inr ⟨h9, rfl, rfl⟩, by have := HN2.out; omega, HRI.out.tail⟩
          have HX := hide (show ∀ W : World, Below wc.heap.size wc W → Calls Try.prog 28 #[.agg #[.int .i64 T.kids[j].kind, .string T.kids[j].cons, .slice p1 T.kids[j].text.length q1, .slice p2 T.kids[j].kids.length q2], .slice (some ⟨b, oo, none⟩) p.length oc, .agg #[.int .i64 S.kind, .string S.cons, .slice g1 S.text.length f1, .slice g2 S.kids.length f2]] W fun e w5 =>
              ∃ (k0 : Int) (k1 : ByteArray) (s1 : Option Addr) (n1 m1 : Nat) (s2 : Option Addr) (n2 m2 : Nat) (c : Int), e = .returned (.tuple #[.agg #[.int .i64 k0, .string k1, .slice s1 n1 m1, .slice s2 n2 m2], .int .i64 c]) ∧
                Hid (PutP W (putP T.kids[j] p S) (.returned (.tuple #[.agg #[.int .i64 k0, .string k1, .slice s1 n1 m1, .slice s2 n2 m2], .int .i64 c])) w5) ∧ W.heap.size ≤ w5.heap.size by
            intro W hW
            have hWw : Below w.heap.size w W := hBw.trans (hW.mono hBw.size)
            refine (ih T.kids[j] S _ (.slice (some ⟨b, oo, none⟩) p.length oc) _ W hcT hcS (RT.below hWw hx) ⟨_, _, rfl, hoc, hoo.below hWw⟩ (HSS.out _ hWw)).mono ?_
            rintro e w5 h5
            have hs5 := h5.2.size
            have h6 := h5.1
            cases hat : putP T.kids[j] p S with
            | none =>
              rw [hat] at h5 h6
              obtain rfl := h6
              exact ⟨0, emptyB, none, 0, 0, none, 0, 0, 4, rfl, h5, hs5⟩
            | some V =>
              rw [hat] at h5 h6
              obtain ⟨v', rfl, htr⟩ := h6
              obtain ⟨s1, m1, s2, m2, rfl, _, _, _, _⟩ := htr.open
              exact ⟨_, _, s1, _, m1, s2, _, m2, 0, rfl, h5, hs5⟩)
          have HBW := hide hBw
          have HC0 := hide hc0
          have HK0 := hide h0
          have HK1 := hide h1
          have HK2 := hide h2
          have hl2 := h2.lt
          have HD := hide (show Below wc.heap.size wc wc.drew from Below.drew (Below.refl _ _))
          clear hx e0 e1 e2 e3 hcut h0 h1 h2 hBw hcells hc0 hoo hc2 hbl1 hbl2
          have HXA := hide (HX.out wc.drew HD.out)
          have HXB := hide (show Calls Try.prog 28 #[.agg #[.int .i64 T.kids[j].kind, .string T.kids[j].cons, .slice p1 T.kids[j].text.length q1, .slice p2 T.kids[j].kids.length q2], .slice (some ⟨b, oo, none⟩) p.length oc, .agg #[.int .i64 S.kind, .string S.cons, .slice g1 S.text.length f1, .slice g2 S.kids.length f2]] ((wc.alloc (.cells #[.int .i64 0, .string ⟨#[]⟩, .slice none 0 0, .slice none 0 0] 25)).drew) fun e w5 =>
              ∃ (k0 : Int) (k1 : ByteArray) (s1 : Option Addr) (n1 m1 : Nat) (s2 : Option Addr) (n2 m2 : Nat) (c : Int), e = .returned (.tuple #[.agg #[.int .i64 k0, .string k1, .slice s1 n1 m1, .slice s2 n2 m2], .int .i64 c]) ∧
                Hid (PutP (wc.drew.alloc (.cells #[.int .i64 0, .string emptyB, .slice none 0 0, .slice none 0 0] 25)) (putP T.kids[j] p S) (.returned (.tuple #[.agg #[.int .i64 k0, .string k1, .slice s1 n1 m1, .slice s2 n2 m2], .int .i64 c])) w5) ∧ Hid (Blk w5 wc.heap.size #[.int .i64 0, .string emptyB, .slice none 0 0, .slice none 0 0] 25) ∧
                (w5.cell? ⟨wc.heap.size, 0, none⟩ = some (.int .i64 0) ∧ w5.cell? ⟨wc.heap.size, 1, none⟩ = some (.string emptyB) ∧ w5.cell? ⟨wc.heap.size, 2, none⟩ = some (.slice none 0 0) ∧ w5.cell? ⟨wc.heap.size, 3, none⟩ = some (.slice none 0 0)) ∧
                (w5.frozen? ⟨wc.heap.size, 0, none⟩ = false ∧ w5.frozen? ⟨wc.heap.size, 1, none⟩ = false ∧ w5.frozen? ⟨wc.heap.size, 2, none⟩ = false ∧ w5.frozen? ⟨wc.heap.size, 3, none⟩ = false) ∧ wc.heap.size < w5.heap.size by
            refine (HX.out _ (HD.out.alloc HD.out.size _)).mono ?_
            rintro e w5 ⟨k0, k1, s1, n1, m1, s2, n2, m2, c, rfl, hpp, hs⟩
            have hk : Blk w5 wc.heap.size #[.int .i64 0, .string emptyB, .slice none 0 0, .slice none 0 0] 25 := (Blk.new wc.drew #[.int .i64 0, .string emptyB, .slice none 0 0, .slice none 0 0] 25).below hpp.out.2
            exact ⟨k0, k1, s1, n1, m1, s2, n2, m2, c, rfl, hpp, hk, ⟨hk.cell 0, hk.cell 1, hk.cell 2, hk.cell 3⟩, ⟨hk.free 0, hk.free 1, hk.free 2, hk.free 3⟩, hk.lt⟩)
          clear HX
          go_upto_region 5 with fail
          go_cut [1, 8, 9] (fun v1 v8 v9 wd => ∃ (cc nb : Nat) (k0 : Int) (k1 : ByteArray) (s1 : Option Addr) (n1 m1 : Nat) (s2 : Option Addr) (n2 m2 : Nat) (c : Int), v1 = .slice (some ⟨b, o, none⟩) n cc ∧ v8 = .pointer (some ⟨nb, 0, none⟩) ∧ v9 = .int .i64 c ∧ Hid (RP5 wc (putP T.kids[j] p S) nb k0 k1 s1 n1 m1 s2 n2 m2 c wd))
          case first =>
            have HSK := hide (fun (W : World) (h : Below wc.heap.size wc W) => (show Below wc.heap.size wc W ∧ W.cell? ⟨w.heap.size, 3, none⟩ = some (.slice (some ⟨b2, o2, none⟩) T.kids.length c2) ∧ W.cell? ⟨b, o, none⟩ = some (.int .i64 (j : Int)) ∧ W.cell? ⟨b2, o2 + j * 4, none⟩ = some (.int .i64 T.kids[j].kind) ∧ W.cell? ⟨b2, o2 + j * 4 + 1, none⟩ = some (.string T.kids[j].cons) ∧ W.cell? ⟨b2, o2 + j * 4 + 2, none⟩ = some (.slice p1 T.kids[j].text.length q1) ∧ W.cell? ⟨b2, o2 + j * 4 + 3, none⟩ = some (.slice p2 T.kids[j].kids.length q2) ∧ W.cell? ⟨w.heap.size + 1, 0, none⟩ = some (.int .i64 S.kind) ∧ W.cell? ⟨w.heap.size + 1, 1, none⟩ = some (.string S.cons) ∧ W.cell? ⟨w.heap.size + 1, 2, none⟩ = some (.slice g1 S.text.length f1) ∧ W.cell? ⟨w.heap.size + 1, 3, none⟩ = some (.slice g2 S.kids.length f2) from
              ⟨h, (h.cell (p := ⟨w.heap.size, 3, none⟩) tl).trans t3, (h.cell (p := ⟨b, o, none⟩) hbl5).trans hcp, (h.cell (p := ⟨b2, o2 + j * 4, none⟩) hbl4).trans e0', (h.cell (p := ⟨b2, o2 + j * 4 + 1, none⟩) hbl4).trans e1', (h.cell (p := ⟨b2, o2 + j * 4 + 2, none⟩) hbl4).trans e2', (h.cell (p := ⟨b2, o2 + j * 4 + 3, none⟩) hbl4).trans e3',
                (h.cell (p := ⟨w.heap.size + 1, 0, none⟩) sl).trans s0, (h.cell (p := ⟨w.heap.size + 1, 1, none⟩) sl).trans s1, (h.cell (p := ⟨w.heap.size + 1, 2, none⟩) sl).trans s2, (h.cell (p := ⟨w.heap.size + 1, 3, none⟩) sl).trans s3⟩))
            have HL := hide (fun (W W' : World) (h : Below wc.heap.size wc W) (h' : Below W.heap.size W W') => HSK.out W' (h.trans (h'.mono h.size)))
            have HLA := hide (fun (W : World) (x : Obj) (h : Below wc.heap.size wc W) => HSK.out (W.alloc x) (h.alloc h.size _))
            have HLP := hide (fun (W5 : World) (x : Obj) (h : Below wc.drew.heap.size wc.drew W5) => (show Below wc.heap.size wc (W5.alloc x) ∧ (W5.alloc x).cell? ⟨w.heap.size, 3, none⟩ = some (.slice (some ⟨b2, o2, none⟩) T.kids.length c2) ∧ (W5.alloc x).cell? ⟨b, o, none⟩ = some (.int .i64 (j : Int)) ∧ (W5.alloc x).cell? ⟨b2, o2 + j * 4, none⟩ = some (.int .i64 T.kids[j].kind) ∧ (W5.alloc x).cell? ⟨b2, o2 + j * 4 + 1, none⟩ = some (.string T.kids[j].cons) ∧ (W5.alloc x).cell? ⟨b2, o2 + j * 4 + 2, none⟩ = some (.slice p1 T.kids[j].text.length q1) ∧ (W5.alloc x).cell? ⟨b2, o2 + j * 4 + 3, none⟩ = some (.slice p2 T.kids[j].kids.length q2) ∧ (W5.alloc x).cell? ⟨w.heap.size + 1, 0, none⟩ = some (.int .i64 S.kind) ∧ (W5.alloc x).cell? ⟨w.heap.size + 1, 1, none⟩ = some (.string S.cons) ∧ (W5.alloc x).cell? ⟨w.heap.size + 1, 2, none⟩ = some (.slice g1 S.text.length f1) ∧ (W5.alloc x).cell? ⟨w.heap.size + 1, 3, none⟩ = some (.slice g2 S.kids.length f2) from HLA.out _ x (HD.out.trans (h.mono HD.out.size))))
            have HLZ := hide (fun (W5 : World) (v0 v1 v2 v3 : Value) (h : Below (wc.drew.alloc (.cells #[.int .i64 0, .string emptyB, .slice none 0 0, .slice none 0 0] 25)).heap.size (wc.drew.alloc (.cells #[.int .i64 0, .string emptyB, .slice none 0 0, .slice none 0 0] 25)) W5) => (show Below wc.heap.size wc ((((W5.setCell ⟨wc.heap.size, 0, none⟩ v0).setCell ⟨wc.heap.size, 1, none⟩ v1).setCell ⟨wc.heap.size, 2, none⟩ v2).setCell ⟨wc.heap.size, 3, none⟩ v3) ∧ ((((W5.setCell ⟨wc.heap.size, 0, none⟩ v0).setCell ⟨wc.heap.size, 1, none⟩ v1).setCell ⟨wc.heap.size, 2, none⟩ v2).setCell ⟨wc.heap.size, 3, none⟩ v3).cell? ⟨w.heap.size, 3, none⟩ = some (.slice (some ⟨b2, o2, none⟩) T.kids.length c2) ∧ ((((W5.setCell ⟨wc.heap.size, 0, none⟩ v0).setCell ⟨wc.heap.size, 1, none⟩ v1).setCell ⟨wc.heap.size, 2, none⟩ v2).setCell ⟨wc.heap.size, 3, none⟩ v3).cell? ⟨b, o, none⟩ = some (.int .i64 (j : Int)) ∧ ((((W5.setCell ⟨wc.heap.size, 0, none⟩ v0).setCell ⟨wc.heap.size, 1, none⟩ v1).setCell ⟨wc.heap.size, 2, none⟩ v2).setCell ⟨wc.heap.size, 3, none⟩ v3).cell? ⟨b2, o2 + j * 4, none⟩ = some (.int .i64 T.kids[j].kind) ∧ ((((W5.setCell ⟨wc.heap.size, 0, none⟩ v0).setCell ⟨wc.heap.size, 1, none⟩ v1).setCell ⟨wc.heap.size, 2, none⟩ v2).setCell ⟨wc.heap.size, 3, none⟩ v3).cell? ⟨b2, o2 + j * 4 + 1, none⟩ = some (.string T.kids[j].cons) ∧ ((((W5.setCell ⟨wc.heap.size, 0, none⟩ v0).setCell ⟨wc.heap.size, 1, none⟩ v1).setCell ⟨wc.heap.size, 2, none⟩ v2).setCell ⟨wc.heap.size, 3, none⟩ v3).cell? ⟨b2, o2 + j * 4 + 2, none⟩ = some (.slice p1 T.kids[j].text.length q1) ∧ ((((W5.setCell ⟨wc.heap.size, 0, none⟩ v0).setCell ⟨wc.heap.size, 1, none⟩ v1).setCell ⟨wc.heap.size, 2, none⟩ v2).setCell ⟨wc.heap.size, 3, none⟩ v3).cell? ⟨b2, o2 + j * 4 + 3, none⟩ = some (.slice p2 T.kids[j].kids.length q2) ∧ ((((W5.setCell ⟨wc.heap.size, 0, none⟩ v0).setCell ⟨wc.heap.size, 1, none⟩ v1).setCell ⟨wc.heap.size, 2, none⟩ v2).setCell ⟨wc.heap.size, 3, none⟩ v3).cell? ⟨w.heap.size + 1, 0, none⟩ = some (.int .i64 S.kind) ∧ ((((W5.setCell ⟨wc.heap.size, 0, none⟩ v0).setCell ⟨wc.heap.size, 1, none⟩ v1).setCell ⟨wc.heap.size, 2, none⟩ v2).setCell ⟨wc.heap.size, 3, none⟩ v3).cell? ⟨w.heap.size + 1, 1, none⟩ = some (.string S.cons) ∧ ((((W5.setCell ⟨wc.heap.size, 0, none⟩ v0).setCell ⟨wc.heap.size, 1, none⟩ v1).setCell ⟨wc.heap.size, 2, none⟩ v2).setCell ⟨wc.heap.size, 3, none⟩ v3).cell? ⟨w.heap.size + 1, 2, none⟩ = some (.slice g1 S.text.length f1) ∧ ((((W5.setCell ⟨wc.heap.size, 0, none⟩ v0).setCell ⟨wc.heap.size, 1, none⟩ v1).setCell ⟨wc.heap.size, 2, none⟩ v2).setCell ⟨wc.heap.size, 3, none⟩ v3).cell? ⟨w.heap.size + 1, 3, none⟩ = some (.slice g2 S.kids.length f2) from HSK.out _ (lay_below v0 v1 v2 v3 (Nat.le_refl _) ((HD.out.alloc HD.out.size _).trans (h.mono (HD.out.alloc HD.out.size _).size)))))
            have hd := HSK.out _ HD.out
            rcases hor with ⟨h9, h10, rfl⟩ | ⟨h9, rfl, rfl⟩
            · have h11 := h10.symm
              subst h11
              go_region_held3 (fun W => Below wc.heap.size wc W ∧ W.cell? ⟨w.heap.size, 3, none⟩ = some (.slice (some ⟨b2, o2, none⟩) T.kids.length c2) ∧ W.cell? ⟨b, o, none⟩ = some (.int .i64 (j : Int)) ∧ W.cell? ⟨b2, o2 + j * 4, none⟩ = some (.int .i64 T.kids[j].kind) ∧ W.cell? ⟨b2, o2 + j * 4 + 1, none⟩ = some (.string T.kids[j].cons) ∧ W.cell? ⟨b2, o2 + j * 4 + 2, none⟩ = some (.slice p1 T.kids[j].text.length q1) ∧ W.cell? ⟨b2, o2 + j * 4 + 3, none⟩ = some (.slice p2 T.kids[j].kids.length q2) ∧ W.cell? ⟨w.heap.size + 1, 0, none⟩ = some (.int .i64 S.kind) ∧ W.cell? ⟨w.heap.size + 1, 1, none⟩ = some (.string S.cons) ∧ W.cell? ⟨w.heap.size + 1, 2, none⟩ = some (.slice g1 S.text.length f1) ∧ W.cell? ⟨w.heap.size + 1, 3, none⟩ = some (.slice g2 S.kids.length f2)) (first | exact hd | exact HLA.out _ _ (And.left (by assumption)) | exact HL.out _ _ (And.left (by assumption)) (PutP.below (Hid.out hpp)) | exact HLP.out _ _ (PutP.below (Hid.out hpp)) | exact HLZ.out _ _ _ _ _ (PutP.below (Hid.out hpp)))
                (first
                  | (go_at_call 28; with_reducible refine HXA.out.mono ?_; rintro e w5 ⟨k0, k1, s1, n1, m1, s2, n2, m2, c, rfl, hpp, hs⟩)
                  | (go_at_call 28; with_reducible refine HXB.out.mono ?_; rintro e w5 ⟨k0, k1, s1, n1, m1, s2, n2, m2, c, rfl, hpp, HBK, ⟨d0, d1, d2, d3⟩, ⟨z0, z1, z2, z3⟩, dl⟩))
              all_goals go_wp2_with fail
              all_goals go_meet
              · exact ⟨_, _, _, _, _, _, _, _, _, _, _, rfl, rfl, rfl, rp5_after hpp.out⟩
              · exact ⟨_, _, _, _, _, _, _, _, _, _, _, rfl, rfl, rfl, rp5_ahead hpp.out HBK.out⟩
            · go_region_held3 (fun W => Below wc.heap.size wc W ∧ W.cell? ⟨w.heap.size, 3, none⟩ = some (.slice (some ⟨b2, o2, none⟩) T.kids.length c2) ∧ W.cell? ⟨b, o, none⟩ = some (.int .i64 (j : Int)) ∧ W.cell? ⟨b2, o2 + j * 4, none⟩ = some (.int .i64 T.kids[j].kind) ∧ W.cell? ⟨b2, o2 + j * 4 + 1, none⟩ = some (.string T.kids[j].cons) ∧ W.cell? ⟨b2, o2 + j * 4 + 2, none⟩ = some (.slice p1 T.kids[j].text.length q1) ∧ W.cell? ⟨b2, o2 + j * 4 + 3, none⟩ = some (.slice p2 T.kids[j].kids.length q2) ∧ W.cell? ⟨w.heap.size + 1, 0, none⟩ = some (.int .i64 S.kind) ∧ W.cell? ⟨w.heap.size + 1, 1, none⟩ = some (.string S.cons) ∧ W.cell? ⟨w.heap.size + 1, 2, none⟩ = some (.slice g1 S.text.length f1) ∧ W.cell? ⟨w.heap.size + 1, 3, none⟩ = some (.slice g2 S.kids.length f2)) (first | exact hd | exact HLA.out _ _ (And.left (by assumption)) | exact HL.out _ _ (And.left (by assumption)) (PutP.below (Hid.out hpp)) | exact HLP.out _ _ (PutP.below (Hid.out hpp)) | exact HLZ.out _ _ _ _ _ (PutP.below (Hid.out hpp)))
                (first
                  | (go_at_call 28; with_reducible refine HXA.out.mono ?_; rintro e w5 ⟨k0, k1, s1, n1, m1, s2, n2, m2, c, rfl, hpp, hs⟩)
                  | (go_at_call 28; with_reducible refine HXB.out.mono ?_; rintro e w5 ⟨k0, k1, s1, n1, m1, s2, n2, m2, c, rfl, hpp, HBK, ⟨d0, d1, d2, d3⟩, ⟨z0, z1, z2, z3⟩, dl⟩))
              all_goals go_wp2_with fail
              all_goals go_meet
              · exact ⟨_, _, _, _, _, _, _, _, _, _, _, rfl, rfl, rfl, rp5_after hpp.out⟩
              · exact ⟨_, _, _, _, _, _, _, _, _, _, _, rfl, rfl, rfl, rp5_ahead hpp.out HBK.out⟩
          case rest =>
            obtain ⟨cc, nb, k0, k1, r1, n1, m1, r2, n2, m2, c, rfl, rfl, rfl, hcut⟩ := hcut
            have HR := hcut.out
            obtain ⟨wd, hwd⟩ : ∃ x, x = wc := ⟨_, rfl⟩
            subst hwd
            have HBD := hide (HBW.out.trans (HR.below.mono HBW.out.size))
            have HK0D := hide (HK0.out.below HR.below)
            have HK2D := hide (HK2.out.below HR.below)
            have z0 := HK2D.out.cell 0
            have z1 := HK2D.out.cell 1
            have z2 := HK2D.out.cell 2
            have z3 := HK2D.out.cell 3
            have y0 := HK2D.out.free 0
            have y1 := HK2D.out.free 1
            have y2 := HK2D.out.free 2
            have y3 := HK2D.out.free 3
            have zl := HK2D.out.lt
            clear t3 s0 s1 s2 s3 e0' e1' e2' e3'
            cases hput : putP T.kids[j] p S with
            | none =>
              rw [hput] at HR
              obtain rfl : c = 4 := HR.res
              have HKE := hide (Blk.lay (v0 := .int .i64 0) (v1 := .string emptyB) (v2 := .slice none 0 0) (v3 := .slice none 0 0) HK2D.out)
              have HBE := hide (lay_below (w := wd) (g := w.heap.size + 1 + 1) (.int .i64 0) (.string emptyB) (.slice none 0 0) (.slice none 0 0) (B := w.heap.size) (by omega) HBD.out)
              clear HR
              go_wp2_with fail
              exact ret28 rfl rfl rfl HKE.out ⟨rfl, HBE.out⟩
            | some V =>
              rw [hput] at HR
              obtain rfl : c = 0 := HR.res.1
              have HC := hide (copyT_any T hc _ wd (HTT.out wd HBD.out))
              have HRH := hide HR
              have t0 := HK0D.out.cell 0
              have t1 := HK0D.out.cell 1
              have t2 := HK0D.out.cell 2
              have t3 := HK0D.out.cell 3
              have tl := HK0D.out.lt
              clear HR
              go_wp2_with fail
              refine HC.out.mono ?_
              rintro e w6 ⟨⟨v', rfl, htree⟩, hb6⟩
              obtain ⟨x1, d1, x2, d2, rfl, _, _, _, _⟩ := htree.rt.open
              obtain ⟨bk, rfl, hmid⟩ := rput_mid HRH.out HBW.out hl2 HK2.out htree hb6 hj
              have HM := hide hmid
              clear hmid htree hb6 t0 t1 t2 t3 z0 z1 z2 z3 y0 y1 y2 y3
              go_upto_region 9 with fail
              generalize (w6.alloc (.cells #[.int .i64 T.kind, .string T.cons, .slice x1 T.text.length d1, .slice (some ⟨bk, 0, none⟩) T.kids.length d2] 25)) = W at *
              generalize w6.heap.size = g at *
              obtain ⟨cur, hcurW, hcsz⟩ := HM.out.cells
              obtain ⟨u0, u1, u2, u3, q0, q1', q2', q3⟩ : ∃ u0 u1 u2 u3, W.cell? ⟨bk, j * 4, none⟩ = some u0 ∧ W.cell? ⟨bk, j * 4 + 1, none⟩ = some u1 ∧ W.cell? ⟨bk, j * 4 + 2, none⟩ = some u2 ∧ W.cell? ⟨bk, j * 4 + 3, none⟩ = some u3 :=
                ⟨cur[j * 4]'(by omega), cur[j * 4 + 1]'(by omega), cur[j * 4 + 2]'(by omega), cur[j * 4 + 3]'(by omega), by rw [hcurW.cell]; exact Array.getElem?_eq_getElem _, by rw [hcurW.cell]; exact Array.getElem?_eq_getElem _, by rw [hcurW.cell]; exact Array.getElem?_eq_getElem _, by rw [hcurW.cell]; exact Array.getElem?_eq_getElem _⟩
              have y0 := hcurW.free (j * 4)
              have y1 := hcurW.free (j * 4 + 1)
              have y2 := hcurW.free (j * 4 + 2)
              have y3 := hcurW.free (j * 4 + 3)
              have ybl := hcurW.lt
              have HST := hide (show W.drew.cell? ⟨g, 3, none⟩ = some (.slice (some ⟨bk, 0, none⟩) T.kids.length d2) ∧ W.drew.cell? ⟨b, o, none⟩ = some (.int .i64 (j : Int)) ∧ W.drew.cell? ⟨nb, 0, none⟩ = some (.int .i64 k0) ∧ W.drew.cell? ⟨nb, 1, none⟩ = some (.string k1) ∧ W.drew.cell? ⟨nb, 2, none⟩ = some (.slice r1 n1 m1) ∧ W.drew.cell? ⟨nb, 3, none⟩ = some (.slice r2 n2 m2) from
                ⟨HM.out.own.cell 3, (HM.out.below.cell (p := ⟨b, o, none⟩) hbl).trans HC0.out, HM.out.kid.cell 0, HM.out.kid.cell 1, HM.out.kid.cell 2, HM.out.kid.cell 3⟩)
              have hst := HST.out
              have HSF := hide (show ((((W.drew.setCell ⟨bk, j * 4, none⟩ (.int .i64 k0)).setCell ⟨bk, j * 4 + 1, none⟩ (.string k1)).setCell ⟨bk, j * 4 + 2, none⟩ (.slice r1 n1 m1)).setCell ⟨bk, j * 4 + 3, none⟩ (.slice r2 n2 m2)).cell? ⟨g, 3, none⟩ = some (.slice (some ⟨bk, 0, none⟩) T.kids.length d2) ∧ ((((W.drew.setCell ⟨bk, j * 4, none⟩ (.int .i64 k0)).setCell ⟨bk, j * 4 + 1, none⟩ (.string k1)).setCell ⟨bk, j * 4 + 2, none⟩ (.slice r1 n1 m1)).setCell ⟨bk, j * 4 + 3, none⟩ (.slice r2 n2 m2)).cell? ⟨b, o, none⟩ = some (.int .i64 (j : Int)) ∧ ((((W.drew.setCell ⟨bk, j * 4, none⟩ (.int .i64 k0)).setCell ⟨bk, j * 4 + 1, none⟩ (.string k1)).setCell ⟨bk, j * 4 + 2, none⟩ (.slice r1 n1 m1)).setCell ⟨bk, j * 4 + 3, none⟩ (.slice r2 n2 m2)).cell? ⟨nb, 0, none⟩ = some (.int .i64 k0) ∧ ((((W.drew.setCell ⟨bk, j * 4, none⟩ (.int .i64 k0)).setCell ⟨bk, j * 4 + 1, none⟩ (.string k1)).setCell ⟨bk, j * 4 + 2, none⟩ (.slice r1 n1 m1)).setCell ⟨bk, j * 4 + 3, none⟩ (.slice r2 n2 m2)).cell? ⟨nb, 1, none⟩ = some (.string k1) ∧ ((((W.drew.setCell ⟨bk, j * 4, none⟩ (.int .i64 k0)).setCell ⟨bk, j * 4 + 1, none⟩ (.string k1)).setCell ⟨bk, j * 4 + 2, none⟩ (.slice r1 n1 m1)).setCell ⟨bk, j * 4 + 3, none⟩ (.slice r2 n2 m2)).cell? ⟨nb, 2, none⟩ = some (.slice r1 n1 m1) ∧ ((((W.drew.setCell ⟨bk, j * 4, none⟩ (.int .i64 k0)).setCell ⟨bk, j * 4 + 1, none⟩ (.string k1)).setCell ⟨bk, j * 4 + 2, none⟩ (.slice r1 n1 m1)).setCell ⟨bk, j * 4 + 3, none⟩ (.slice r2 n2 m2)).cell? ⟨nb, 3, none⟩ = some (.slice r2 n2 m2) from
                ⟨HM.out.ownF.cell 3, (HM.out.belowF.cell (p := ⟨b, o, none⟩) hbl).trans HC0.out, HM.out.kidF.cell 0, HM.out.kidF.cell 1, HM.out.kidF.cell 2, HM.out.kidF.cell 3⟩)
              clear hcurW hcsz
              go_region_held3 (fun W' => W'.cell? ⟨g, 3, none⟩ = some (.slice (some ⟨bk, 0, none⟩) T.kids.length d2) ∧ W'.cell? ⟨b, o, none⟩ = some (.int .i64 (j : Int)) ∧ W'.cell? ⟨nb, 0, none⟩ = some (.int .i64 k0) ∧ W'.cell? ⟨nb, 1, none⟩ = some (.string k1) ∧ W'.cell? ⟨nb, 2, none⟩ = some (.slice r1 n1 m1) ∧ W'.cell? ⟨nb, 3, none⟩ = some (.slice r2 n2 m2))
                (first | exact hst | exact HSF.out) (fail)
              clear hst HST HSF q0 q1' q2' q3 y0 y1 y2 y3
              have HBF := hide HM.out.belowF
              have HOF := hide HM.out.ownF
              have HRF := hide HM.out.resF
              have HFF := hide HM.out.fin
              clear HM
              simp only [World.setCell_drew] at HBF HOF HRF HFF
              generalize ((((W.setCell ⟨bk, j * 4, none⟩ (.int .i64 k0)).setCell ⟨bk, j * 4 + 1, none⟩ (.string k1)).setCell ⟨bk, j * 4 + 2, none⟩ (.slice r1 n1 m1)).setCell ⟨bk, j * 4 + 3, none⟩ (.slice r2 n2 m2)).drew = W9 at *
              have t0 := HOF.out.cell 0
              have t1 := HOF.out.cell 1
              have t2 := HOF.out.cell 2
              have t3 := HOF.out.cell 3
              have tl := HOF.out.lt
              have z0 := HRF.out.cell 0
              have z1 := HRF.out.cell 1
              have z2 := HRF.out.cell 2
              have z3 := HRF.out.cell 3
              have y0 := HRF.out.free 0
              have y1 := HRF.out.free 1
              have y2 := HRF.out.free 2
              have y3 := HRF.out.free 3
              have zl := HRF.out.lt
              obtain ⟨hl1, hl2', hl3⟩ := lay_facts (w := W9) (g := w.heap.size + 1 + 1) (.int .i64 T.kind) (.string T.cons) (.slice x1 T.text.length d1) (.slice (some ⟨bk, 0, none⟩) T.kids.length d2)
              have HKF := hide (Blk.lay (v0 := .int .i64 T.kind) (v1 := .string T.cons) (v2 := .slice x1 T.text.length d1) (v3 := .slice (some ⟨bk, 0, none⟩) T.kids.length d2) HRF.out)
              have HPF := hide (show PutP w (some (setKid T j V)) (.returned (.tuple #[.agg #[.int .i64 T.kind, .string T.cons, .slice x1 T.text.length d1, .slice (some ⟨bk, 0, none⟩) T.kids.length d2], .int .i64 0])) (lay4 W9 (w.heap.size + 1 + 1) (.int .i64 T.kind) (.string T.cons) (.slice x1 T.text.length d1) (.slice (some ⟨bk, 0, none⟩) T.kids.length d2)) from
                ⟨⟨_, rfl, RTo.weak (fun k hk => by omega) (RTo.keep (w := W9) (ok := fun k => w.heap.size + 3 ≤ k) ⟨by omega, fun k hk _ => hl2' k (by omega)⟩ HFF.out)⟩, hl1 (by omega) HBF.out⟩)
              clear hl1 hl2' hl3
              go_wp2_with fail
              rw [hput]
              exact ret28 rfl rfl rfl HKF.out HPF.out
end Go.Proofs.Ytfndldfnlncabaa
