/- The walk of the reader's method term: where it fails at once, and the bare sign. -/
import Derived.Test.YtfndldfnlncabaaListE
import Derived.Test.YtfndldfnlncabaaName
import Derived.Test.YtfndldfnlncabaaRQuotedZ
set_option linter.unnecessarySimpa false
set_option linter.deprecated false
namespace Go.Proofs.Ytfndldfnlncabaa
open Go.RowKit
set_option linter.unusedVariables false
set_option linter.unusedSimpArgs false

/-- The empty result that term lays first. -/
def res0 (w : World) : World := w.alloc (.cells #[.int .i64 0, .string emptyB, .slice none 0 0, .slice none 0 0] 25)

theorem res0_size (w : World) : (res0 w).heap.size = w.heap.size + 1 := by simp [res0]

/-- What peek leaves of term's start. -/
structure Start (g : Nat) (s : ByteArray) (w : World) (q : Nat) (w1 : World) : Prop where
  rd : Rd w1 g s q
  fr : Fr g w w1
  blk : Blk w1 w.heap.size #[.int .i64 0, .string emptyB, .slice none 0 0, .slice none 0 0] 25
  ne : g < w.heap.size

theorem Start.of {g : Nat} {s : ByteArray} {w w1 : World} {q : Nat} (hg : g < w.heap.size) (hr : Rd w1 g s q) (hf : Fr g (res0 w) w1) : Start g s w q w1 :=
  ⟨hr, (Fr.allocS (Fr.refl _ _)).trans hf, (hf.block _ (by rw [res0_size]; omega) (by omega)).trans (Blk.new w _ _), hg⟩

theorem Blk.setS {w : World} {k : Nat} {c : Array Value} {t : TypeId} (h : Blk w k c t) {b i : Nat} {v : Value} (hb : b ≠ k) : Blk (w.setCell ⟨b, i, none⟩ v) k c t :=
  (Below.heap_setCell _ _ _ _ (fun e => hb e.symm)).trans h
/-- The term laid over the empty one. -/
def lay4 (w : World) (k : Nat) (v0 v1 v2 v3 : Value) : World := (((w.setCell ⟨k, 0, none⟩ v0).setCell ⟨k, 1, none⟩ v1).setCell ⟨k, 2, none⟩ v2).setCell ⟨k, 3, none⟩ v3
theorem Blk.lay {w : World} {k : Nat} {a b c d v0 v1 v2 v3 : Value} {t : TypeId} (h : Blk w k #[a, b, c, d] t) : Blk (lay4 w k v0 v1 v2 v3) k #[v0, v1, v2, v3] t := by
  unfold lay4 Blk at *
  simp only [World.setCell, Array.getElem?_modify, h]
  simp

set_option maxHeartbeats 1000000 in
theorem ret40 {R : Ending → World → Prop} {a : Act} {W : World} {k : Nat} {v0 v1 v2 v3 : Value} (h4 : (a.tmps[4]?).getD undef = .pointer (some ⟨k, 0, none⟩)) (hd : a.defers = []) (hb : Blk W k #[v0, v1, v2, v3] 25) (hR : R (.returned (.agg #[v0, v1, v2, v3])) W) : bodyPost Try.prog Try.f40 R .ret a W := by
  have f0 : W.cell? ⟨k, 0, none⟩ = some v0 := hb.cell 0
  have f1 : W.cell? ⟨k, 1, none⟩ = some v1 := hb.cell 1
  have f2 : W.cell? ⟨k, 2, none⟩ = some v2 := hb.cell 2
  have f3 : W.cell? ⟨k, 3, none⟩ = some v3 := hb.cell 3
  refine bodyPost_ret (v := .agg #[v0, v1, v2, v3]) ?_ hd hR
  simp [results, Try.results40, h4, go_sem, f0, f1, f2, f3]

theorem term_end {g : Nat} {s : ByteArray} {w w2 : World} {q : Nat} {T : Tm} {l : List UInt8} {v0 v1 v2 v3 : Value} (hf : Fr g w w2) (hr : Rd w2 g s q) (hg : g < w.heap.size)
    (hT : RTo (fun k => w.heap.size + 1 ≤ k) w2 T (.agg #[v0, v1, v2, v3])) (hq : q = s.size - l.length) : TermPost g s w.heap.size (.ok T l) (.returned (.agg #[v0, v1, v2, v3])) (lay4 w2 w.heap.size v0 v1 v2 v3) ∧ Fr g w (lay4 w2 w.heap.size v0 v1 v2 v3) := by
  subst hq
  refine ⟨⟨_, rfl, RTo.weak (fun k hk => by omega) (RTo.keep (Keep.setS (Keep.setS (Keep.setS (Keep.setS (Keep.refl _ _) ?_) ?_) ?_) ?_) hT), ?_⟩, ?_⟩
  · omega
  · omega
  · omega
  · omega
  · exact Rd.setS (Rd.setS (Rd.setS (Rd.setS hr (by omega)) (by omega)) (by omega)) (by omega)
  · exact Fr.setN (Fr.setN (Fr.setN (Fr.setN hf (by omega)) (by omega)) (by omega)) (by omega)

set_option maxHeartbeats 8000000 in
set_option maxRecDepth 100000 in
theorem term_dash (s : ByteArray) (g p : Nat) (w : World) (m : Int) (hm : (m == 0) = false) (hm1 : 0 ≤ m) (hm2 : m ≤ 200) (hs : s.size ≤ 65536) (hp : p ≤ s.size) (hr : Rd w g s p) (r : List UInt8) (hP : peekL (s.data.toList.drop p) = .ok 45 r) :
    Calls Try.prog 40 #[.pointer (some ⟨g, 0, none⟩), .int .i64 m] w fun e w' => TermPost g s w.heap.size (.ok (.mk 4 emptyB [] []) (r.drop 1)) e w' ∧ Fr g w w' := by
  have HP := hide (peek_any g s p (res0 w) hs hp hr.allocS)
  have HN := hide hr.lt
  have hsuf : r <:+ s.data.toList := (peekL_suffix hP).trans (List.drop_suffix _ _)
  have hr0 : 0 < r.length := by obtain ⟨_, r', e3⟩ := peekL_ok hP; rw [e3]; simp
  have hle := hsuf.length_le
  rw [size_len] at hle
  rw [hP] at HP
  generalize hq : s.size - r.length = q at *
  have hqi : (q : Int) ≤ 65536 := by omega
  clear hr hP
  go_enter Try.func40, Try.ntmps40
  go_wp2_with fail
  change Calls Try.prog 54 _ (res0 w) _
  refine HP.out.mono ?_
  rintro e1 w1 ⟨⟨rfl, hr1⟩, hf1⟩
  rw [hq] at hr1
  have HS := hide (Start.of HN.out hr1 hf1)
  have c1 := hr1.cell1
  have z1 := hr1.free1
  have hlt := hr1.lt
  have d0 := HS.out.blk.cell 0
  have d1 := HS.out.blk.cell 1
  have d2 := HS.out.blk.cell 2
  have d3 := HS.out.blk.cell 3
  have dz0 := HS.out.blk.free 0
  have dz1 := HS.out.blk.free 1
  have dz2 := HS.out.blk.free 2
  have dz3 := HS.out.blk.free 3
  have hne := HS.out.ne
  clear hr1 hf1
  go_wp2_with fail
  refine ret40 rfl rfl (Blk.lay (HS.out.blk.setS (Nat.ne_of_lt hne))) (term_end (HS.out.fr.setS) (Rd.set HS.out.rd (q + 1) (by omega)) hne (RTo.shut (by decide) (by decide) RBo.nil RKo.nil rfl rfl) ?_)
  rw [List.length_drop]
  omega
end Go.Proofs.Ytfndldfnlncabaa
