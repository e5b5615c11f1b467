/- The walk of the law's own function spoil: nothing but the term's own blocks is written over. -/
import Derived.Test.YtfndldfnlncabaaOwnR
set_option linter.unusedVariables false
set_option linter.unusedSimpArgs false
set_option linter.unnecessarySimpa false
set_option linter.deprecated false
namespace Go.Proofs.Ytfndldfnlncabaa
open Go.RowKit

/-- Nothing but the blocks that are so is written over. -/
structure Spoilt (P : Nat → Prop) (w w' : World) : Prop where
  os : w'.os = w.os
  tape : w'.tape = w.tape
  output : w'.output = w.output
  size : w.heap.size ≤ w'.heap.size
  block : ∀ k, k < w.heap.size → ¬ P k → w'.heap[k]? = w.heap[k]?
theorem Spoilt.refl (P : Nat → Prop) (w : World) : Spoilt P w w := ⟨rfl, rfl, rfl, Nat.le_refl _, fun _ _ _ => rfl⟩
theorem Spoilt.below {P : Nat → Prop} {w w' : World} {B : Nat} (h : Spoilt P w w') (hB : B ≤ w.heap.size) (hp : ∀ k, P k → B ≤ k) : Below B w w' :=
  ⟨h.os, h.tape, h.output, h.size, fun k hk => h.block k (by omega) (fun h2 => by have := hp k h2; omega)⟩
theorem Spoilt.keep {P : Nat → Prop} {w w' : World} (h : Spoilt P w w') : Keep (fun k => ¬ P k) w w' := ⟨h.size, fun k hk hl => h.block k hl hk⟩
theorem Spoilt.trans {P Q : Nat → Prop} {a b c : World} (h : Spoilt P a b) (k : Spoilt Q b c) (hq : ∀ x, Q x → P x ∨ a.heap.size ≤ x) : Spoilt P a c :=
  ⟨k.os.trans h.os, k.tape.trans h.tape, k.output.trans h.output, Nat.le_trans h.size k.size, fun x hx hp => (k.block x (Nat.lt_of_lt_of_le hx h.size) (fun h2 => (hq x h2).elim hp (by omega))).trans (h.block x hx hp)⟩
theorem Spoilt.set {P : Nat → Prop} {a w : World} (h : Spoilt P a w) {b i : Nat} {v : Value} (hb : P b) : Spoilt P a (w.setCell ⟨b, i, none⟩ v) :=
  ⟨h.os, h.tape, h.output, by rw [size_setCell]; exact h.size, fun k hk hp => (Below.heap_setCell _ _ _ _ (by show k ≠ b; rintro rfl; exact hp hb)).trans (h.block k hk hp)⟩

structure SpRel (w : World) (P : Nat → Prop) (A : Array Value) (tx : List UInt8) (ks : List Tm) (a1 a2 : Option Addr) (wr : World) : Prop where
  sp : Spoilt P w wr
  box : Blk wr w.heap.size A 25
  text : tx ≠ [] → ∃ tb cur, a1 = some ⟨tb, 0, none⟩ ∧ P tb ∧ tb < w.heap.size ∧ wr.heap[tb]? = some (.cells cur 5 (0, 0)) ∧ tx.length ≤ cur.size
  kids : ks ≠ [] → ∃ b cur, a2 = some ⟨b, 0, none⟩ ∧ P b ∧ b < w.heap.size ∧ wr.heap[b]? = some (.cells cur 25 (0, 0)) ∧ ks.length * 4 ≤ cur.size ∧ some b ≠ a1.map (·.block) ∧ Trees wr b 0 ks (Left P b a1)

theorem sp_byte {w wr : World} {P : Nat → Prop} {A : Array Value} {tx : List UInt8} {ks : List Tm} {a2 : Option Addr} {tb i : Nat} (hP : ∀ k, P k → k < w.heap.size) (h : SpRel w P A tx ks (some ⟨tb, 0, none⟩) a2 wr) (hi : i < tx.length) :
    SpRel w P A tx ks (some ⟨tb, 0, none⟩) a2 (wr.setCell ⟨tb, i, none⟩ (.int .u8 99)) := by
  have hne : tx ≠ [] := by rintro rfl; simp at hi
  obtain ⟨tb', cur, e, hp, htl, hcur, hsz⟩ := h.text hne
  injection e with e
  injection e with e1 _ _
  subst e1
  have hold : ∀ k, k ≠ tb → (wr.setCell ⟨tb, i, none⟩ (.int .u8 99)).heap[k]? = wr.heap[k]? := fun k hk => Below.heap_setCell _ _ _ _ hk
  refine ⟨h.sp.set hp, (hold _ (by omega)).trans h.box, fun _ => ⟨tb, cur.setIfInBounds i (.int .u8 99), rfl, hp, htl, ?_, by simpa using hsz⟩, fun hn => ?_⟩
  · simp only [World.setCell, Array.getElem?_modify, hcur]
    simp
  · obtain ⟨b, cur2, e2, hpb, hbl, hcur2, hs2, hne2, ht⟩ := h.kids hn
    have hbt : b ≠ tb := fun e => hne2 (by rw [e]; rfl)
    exact ⟨b, cur2, e2, hpb, hbl, (hold b hbt).trans hcur2, hs2, hne2, Trees.keep ⟨by rw [size_setCell]; exact Nat.le_refl _, fun k hk _ => hold k (fun e => hk.2.2 (by rw [e]; rfl))⟩ (fun o _ _ => World.cell?_of_block (w := wr) (hold b hbt)) ht⟩

/-- Some kids are spoilt, the others stand. -/
structure SpRel2 (w : World) (P : Nat → Prop) (A : Array Value) (ks : List Tm) (b k : Nat) (wr : World) : Prop where
  sp : Spoilt P w wr
  box : Blk wr w.heap.size A 25
  row : ks ≠ [] → P b ∧ ∃ cur, wr.heap[b]? = some (.cells cur 25 (0, 0)) ∧ ks.length * 4 ≤ cur.size
  rest : ∃ Q : Nat → Prop, (∀ j, Q j → P j ∧ j ≠ b) ∧ Trees wr b (k * 4) (ks.drop k) Q
  le : k ≤ ks.length

theorem sp_kid {w wr w3 : World} {P : Nat → Prop} {A : Array Value} {ks : List Tm} {b k : Nat} {Q R : Nat → Prop} {y0 y1 y2 y3 : Value} (hP : ∀ k, P k → k < w.heap.size) (h : SpRel2 w P A ks b k wr) (hk : k < ks.length)
    (hQ : ∀ j, Q j → P j ∧ j ≠ b) (hR : ∀ j, R j → Q j) (ht : Trees wr b (k * 4 + 4) (ks.drop (k + 1)) (fun j => Q j ∧ ¬ R j)) (hs : Spoilt R wr w3) :
    SpRel2 w P A ks b (k + 1) ((((w3.setCell ⟨b, k * 4, none⟩ y0).setCell ⟨b, k * 4 + 1, none⟩ y1).setCell ⟨b, k * 4 + 2, none⟩ y2).setCell ⟨b, k * 4 + 3, none⟩ y3) := by
  have hne : ks ≠ [] := by rintro rfl; simp at hk
  obtain ⟨hpb, cur, hcur, hsz⟩ := h.row hne
  have hbl : b < wr.heap.size := (Array.getElem?_eq_some_iff.1 hcur).1
  have hnR : ¬ R b := fun hr => (hQ b (hR b hr)).2 rfl
  have hcur3 : w3.heap[b]? = some (.cells cur 25 (0, 0)) := (hs.block b hbl hnR).trans hcur
  obtain ⟨⟨cur', hcur4, hsz', hout, _⟩, hsz4, hoth⟩ := four_set (y0 := y0) (y1 := y1) (y2 := y2) (y3 := y3) hcur3 (o := k * 4) (by omega)
  have hsp : Spoilt P w ((((w3.setCell ⟨b, k * 4, none⟩ y0).setCell ⟨b, k * 4 + 1, none⟩ y1).setCell ⟨b, k * 4 + 2, none⟩ y2).setCell ⟨b, k * 4 + 3, none⟩ y3) :=
    (((((h.sp.trans hs (fun x hx => Or.inl (hQ x (hR x hx)).1)).set hpb).set hpb).set hpb).set hpb)
  generalize ((((w3.setCell ⟨b, k * 4, none⟩ y0).setCell ⟨b, k * 4 + 1, none⟩ y1).setCell ⟨b, k * 4 + 2, none⟩ y2).setCell ⟨b, k * 4 + 3, none⟩ y3) = w4 at *
  have hs3 := hs.size
  have hold : ∀ j, j < wr.heap.size → j ≠ b → ¬ R j → w4.heap[j]? = wr.heap[j]? := fun j h1 h2 h3 => (hoth j h2).trans (hs.block j h1 h3)
  refine ⟨hsp, (hold _ h.box.lt (by have := hP b hpb; omega) (fun hr => by have := hP _ (hQ _ (hR _ hr)).1; omega)).trans h.box, fun _ => ⟨hpb, cur', hcur4, by omega⟩, ⟨fun j => Q j ∧ ¬ R j, fun j hj => hQ j hj.1, ?_⟩, hk⟩
  rw [show (k + 1) * 4 = k * 4 + 4 by omega]
  refine Trees.keep ⟨by omega, fun j hj hl => hold j hl (hQ j hj.1).2 hj.2⟩ (fun i h1 _ => ?_) ht
  rw [cell_at hcur4, cell_at hcur, hout i (by omega)]

def SpOk (T : Tm) : Prop := ∀ (P : Nat → Prop) (v : Value) (w : World), Tree w T P v → Calls Try.prog 29 #[v] w fun e w' => e = .returned (.tuple #[]) ∧ Spoilt P w w'

set_option maxHeartbeats 2000000 in
set_option maxRecDepth 100000 in
theorem spoil_any : ∀ T, SpOk T := by
  refine Tm.induct fun kd cs tx ks ih => ?_
  intro P0 v w hT0
  have hT := hT0.low
  obtain ⟨P, hPe⟩ : ∃ P : Nat → Prop, P = fun k => P0 k ∧ k < w.heap.size := ⟨_, rfl⟩
  rw [← hPe] at hT
  have hP : ∀ k, P k → k < w.heap.size := fun k hk => by rw [hPe] at hk; exact hk.2
  have HP0 := hide (show ∀ w', Spoilt P w w' → Spoilt P0 w w' from fun w' h => ⟨h.os, h.tape, h.output, h.size, fun k hk hn => h.block k hk (fun h2 => hn (by rw [hPe] at h2; exact h2.1))⟩)
  rw [Tree] at hT
  obtain ⟨a1, c1, a2, c2, rfl, hkd, hcs, htx, hkl, hkids⟩ := hT
  have htl := htx.1
  obtain ⟨n1, hn1⟩ : ∃ n, ks.length = n := ⟨_, rfl⟩
  obtain ⟨n2, hn2⟩ : ∃ n, tx.length = n := ⟨_, rfl⟩
  have HR0 := hide (show SpRel w P #[.int .i64 kd, .string cs, .slice a1 tx.length c1, .slice a2 ks.length c2] tx ks a1 a2 (w.alloc (.cells #[.int .i64 kd, .string cs, .slice a1 tx.length c1, .slice a2 ks.length c2] 25)) from by
    have hold : ∀ k, k < w.heap.size → (w.alloc (.cells #[.int .i64 kd, .string cs, .slice a1 tx.length c1, .slice a2 ks.length c2] 25)).heap[k]? = w.heap[k]? := fun k hk => Below.heap_alloc _ _ _ hk
    refine ⟨⟨rfl, rfl, rfl, by simp, fun k hk _ => hold k hk⟩, Blk.new _ _ _, fun hn => ?_, fun hn => ?_⟩
    · obtain ⟨tb, cur, e, hp, hh, hc⟩ := htx.2 hn
      have hl := (Array.getElem?_eq_some_iff.1 hh).1
      refine ⟨tb, cur, e, hp, hl, (hold tb hl).trans hh, ?_⟩
      have hpos : 0 < tx.length := List.length_pos_iff.2 hn
      have := hc (tx.length - 1) (by omega)
      have := (Array.getElem?_eq_some_iff.1 this).1
      omega
    · obtain ⟨b, cur, e, hp, hh, hs, hne, ht⟩ := hkids hn
      have hl := (Array.getElem?_eq_some_iff.1 hh).1
      exact ⟨b, cur, e, hp, hl, (hold b hl).trans hh, hs, hne, Trees.keep ⟨by simp, fun k hk hk2 => hold k hk2⟩ (fun i _ _ => World.cell?_of_block (w := w) (hold b hl)) ht⟩)
  have HI := hide ih
  have HN1 := hide hn1
  have HN2 := hide hn2
  rw [hn1] at hkl HR0 ⊢
  rw [hn2] at htl HR0 ⊢
  clear hn1 hn2 htx hkids hT0 ih
  go_enter Try.func29, Try.ntmps29
  go_wp2_with fail
  go_loopg [2] n2 (fun m v2 wr => ∃ k : Nat, Hid (m = n2 - k) ∧ v2 = .int .i64 (k : Int) ∧ Hid (k ≤ n2) ∧ Hid (SpRel w P #[.int .i64 kd, .string cs, .slice a1 n2 c1, .slice a2 n1 c2] tx ks a1 a2 wr))
  case atStart => exact ⟨0, rfl, rfl, Nat.zero_le _, HR0⟩
  case round =>
    obtain ⟨k, hm, rfl, hk, hr⟩ := hrel
    have hkn := hk.out
    have p2 := hr.out.box.cell 2
    have pl := hr.out.box.lt
    by_cases hlt : k < n2
    · have hlti : (k : Int) < (n2 : Int) := by omega
      have hk2 : k < tx.length := by have := HN2.out; omega
      obtain ⟨tb, cur, rfl, hpt, htbl, hcur, hsz⟩ := hr.out.text (by rintro rfl; simp at hk2)
      have hn := hide (sp_byte hP hr.out hk2)
      obtain ⟨x, hx⟩ : ∃ x, cur[k]? = some x := ⟨_, Array.getElem?_eq_getElem (by omega)⟩
      have d0 : wr.cell? ⟨tb, k, none⟩ = some x := (Blk.cell (t := 5) hcur k).trans hx
      have z0 : wr.frozen? ⟨tb, k, none⟩ = false := Blk.free (t := 5) hcur k
      have dl := (Array.getElem?_eq_some_iff.1 hcur).1
      clear hcur hx
      go_wp2_with fail
      go_roundg (n2 - (k + 1))
      case measure => rw [hm.out]; omega
      case rel => exact ⟨k + 1, rfl, rfl, hide (by omega), hn⟩
    · have hlti : ¬ (k : Int) < (n2 : Int) := by omega
      have hke : k = n2 := by omega
      subst hke
      obtain ⟨b, hb2, hr2⟩ : ∃ b, (ks ≠ [] → a2 = some ⟨b, 0, none⟩) ∧ SpRel2 w P #[.int .i64 kd, .string cs, .slice a1 k c1, .slice a2 n1 c2] ks b 0 wr := by
        by_cases h0 : ks = []
        · subst h0
          exact ⟨0, fun h => absurd rfl h, hr.out.sp, hr.out.box, fun h => absurd rfl h, ⟨fun _ => False, fun j hj => hj.elim, by rw [List.drop_nil, Trees]; trivial⟩, Nat.zero_le _⟩
        · obtain ⟨b, cur, e, hpb, hbl, hcur, hs, hne, ht⟩ := hr.out.kids h0
          exact ⟨b, fun _ => e, hr.out.sp, hr.out.box, fun _ => ⟨hpb, cur, hcur, hs⟩, ⟨Left P b a1, fun j hj => ⟨hj.1, hj.2.1⟩, by rw [Nat.zero_mul, List.drop_zero]; exact ht⟩, Nat.zero_le _⟩
      have HB2 := hide hb2
      have HR2 := hide hr2
      clear hb2 hr2
      clear hr hm hk hkn
      go_wp2_with fail
      go_loopg [3] n1 (fun m v3 wq => ∃ k2 : Nat, Hid (m = n1 - k2) ∧ v3 = .int .i64 (k2 : Int) ∧ Hid (SpRel2 w P #[.int .i64 kd, .string cs, .slice a1 k c1, .slice a2 n1 c2] ks b k2 wq))
      case atStart => exact ⟨0, rfl, rfl, HR2⟩
      case round =>
        rename_i wq _
        obtain ⟨k2, hm, rfl, hr⟩ := hrel
        have hkn := hr.out.le
        rw [HN1.out] at hkn
        have p3 := hr.out.box.cell 3
        have pl := hr.out.box.lt
        by_cases hlt : k2 < n1
        · have hlti : (k2 : Int) < (n1 : Int) := by omega
          have hk2 : k2 < ks.length := by have := HN1.out; omega
          have hne : ks ≠ [] := by rintro rfl; simp at hk2
          obtain rfl := HB2.out hne
          obtain ⟨hpb, cur, hcur, hsz⟩ := hr.out.row hne
          obtain ⟨Q, hQ, hts⟩ := hr.out.rest
          rw [List.drop_eq_getElem_cons hk2, Trees] at hts
          obtain ⟨v0, v1, v2, v3, R, ⟨e0, e1, e2, e3⟩, htree, hR, hrest⟩ := hts
          obtain ⟨x1, m1, x2, m2, ev, _, _, _, _⟩ := htree.rt.open
          simp only [Value.agg.injEq, Array.mk.injEq, List.cons.injEq, and_true] at ev
          obtain ⟨rfl, rfl, rfl, rfl⟩ := ev
          have hbl := (Array.getElem?_eq_some_iff.1 hcur).1
          have HX := hide (HI.out ks[k2] (List.getElem_mem hk2) R _ _ htree)
          have HNX := hide (fun w3 y0 y1 y2 y3 (hs : Spoilt R _ w3) => sp_kid (y0 := y0) (y1 := y1) (y2 := y2) (y3 := y3) hP hr.out hk2 hQ hR hrest hs)
          have hnR : ¬ R b := fun h => (hQ b (hR b h)).2 rfl
          have hnB : ¬ R w.heap.size := fun h => by have := hP _ (hQ _ (hR _ h)).1; omega
          have HB := hide hr.out.box
          clear htree hrest
          go_wp2_with fail
          refine HX.out.mono ?_
          rintro e w3 ⟨rfl, hs⟩
          have hbx : Blk w3 w.heap.size #[.int .i64 kd, .string cs, .slice a1 k c1, .slice (some ⟨b, 0, none⟩) n1 c2] 25 := (hs.block _ pl hnB).trans HB.out
          have q3 := hbx.cell 3
          have ql := hbx.lt
          have hcur3 : w3.heap[b]? = some (.cells cur 25 (0, 0)) := (hs.block b hbl hnR).trans hcur
          have hcc : ∀ o, w3.cell? ⟨b, o, none⟩ = _ := fun o => World.cell?_of_block (a := ⟨b, o, none⟩) (hs.block b hbl hnR)
          have d0 := (hcc _).trans e0
          have d1 := (hcc _).trans e1
          have d2 := (hcc _).trans e2
          have d3 := (hcc _).trans e3
          have z0 : w3.frozen? ⟨b, k2 * 4, none⟩ = false := Blk.free (t := 25) hcur3 _
          have z1 : w3.frozen? ⟨b, k2 * 4 + 1, none⟩ = false := Blk.free (t := 25) hcur3 _
          have z2 : w3.frozen? ⟨b, k2 * 4 + 2, none⟩ = false := Blk.free (t := 25) hcur3 _
          have z3 : w3.frozen? ⟨b, k2 * 4 + 3, none⟩ = false := Blk.free (t := 25) hcur3 _
          have zl := (Array.getElem?_eq_some_iff.1 hcur3).1
          have HNY := hide (fun y0 y1 y2 y3 => HNX.out w3 y0 y1 y2 y3 hs)
          clear hs hbx hcur3 hcc hcur e0 e1 e2 e3 HNX
          go_wp2_with fail
          go_roundg (n1 - (k2 + 1))
          case measure => rw [hm.out]; omega
          case rel => exact ⟨k2 + 1, rfl, rfl, hide (HNY.out _ _ _ _)⟩
        · have hlti : ¬ (k2 : Int) < (n1 : Int) := by omega
          have HF := hide (HP0.out _ hr.out.sp)
          go_wp2_with fail
          go_end0
          exact ⟨rfl, HF.out⟩
end Go.Proofs.Ytfndldfnlncabaa
