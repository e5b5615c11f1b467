/- The walk of terms.Parse: the deferred closure that recovers, and the function. -/
import Derived.Test.YtfndldfnlncabaaTermZ
import Derived.Defers
import Derived.Recover
import Derived.WalkKit
namespace Go.Proofs.Ytfndldfnlncabaa
set_option linter.unnecessarySimpa false
set_option linter.deprecated false
open Go.RowKit
set_option linter.unusedVariables false
set_option linter.unusedSimpArgs false

theorem Below.setS {B : Nat} {a w : World} (h : Below B a w) {b i : Nat} {v : Value} (hb : B ≤ b) : Below B a (w.setCell ⟨b, i, none⟩ v) :=
  ⟨h.os, h.tape, h.output, by rw [size_setCell]; exact h.size, fun k hk => (Below.heap_setCell _ _ _ _ (by show k ≠ b; omega)).trans (h.block k hk)⟩

set_option maxHeartbeats 1000000 in
theorem catch_idle (p q : Addr) (w : World) :
    CallsD Try.prog 39 #[.pointer (some p), .pointer (some q)] .returning w fun e u' w' => e = .returned (.tuple #[]) ∧ u' = .returning ∧ w' = w := by
  refine callsD_of_wpS Try.func39 rfl fun c₀ cs hu => ?_
  apply wpS_seq
  apply wpS_region
  simp [wpOpsS, go_sem, recoverD, hu, Try.ntmps39, Exit.thenS]
  apply wpS_seq
  apply wpS_region
  simp [wpOpsS, go_sem, Exit.thenS]
  refine wpS_cond (t := false) (by simp [Act.eval, Array.replicate]) ?_
  simp only [Bool.false_eq_true, if_false]
  refine wpS_of_wp (wp_skip ?_)
  cases c₀
  simp_all [bodyPostS, results, Try.results39, Exit.thenS]

/-- Two cells laid over. -/
def lay2 (w : World) (k : Nat) (v0 v1 : Value) : World := (w.setCell ⟨k, 0, none⟩ v0).setCell ⟨k, 1, none⟩ v1
theorem Blk.lay2 {w : World} {k : Nat} {a b v0 v1 : Value} {t : TypeId} (h : Blk w k #[a, b] t) : Blk (lay2 w k v0 v1) k #[v0, v1] t := by
  unfold Go.Proofs.Ytfndldfnlncabaa.lay2 Blk at *
  simp only [World.setCell, Array.getElem?_modify, h]
  simp
/-- What the recovering closure leaves. -/
theorem caught {b : Nat} {w : World} {v0 v1 v2 v3 u0 u1 x0 x1 x2 x3 y0 y1 : Value} (hb : Blk w b #[v0, v1, v2, v3] 25) (hc : Blk w (b + 1) #[u0, u1] 32) :
    Blk (lay2 (lay4 w b x0 x1 x2 x3) (b + 1) y0 y1) b #[x0, x1, x2, x3] 25 ∧ Blk (lay2 (lay4 w b x0 x1 x2 x3) (b + 1) y0 y1) (b + 1) #[y0, y1] 32 ∧ Below b w (lay2 (lay4 w b x0 x1 x2 x3) (b + 1) y0 y1) := by
  refine ⟨?_, Blk.lay2 (a := u0) (b := u1) ?_, ?_⟩
  · exact Blk.setS (Blk.setS (Blk.lay hb) (by omega)) (by omega)
  · exact Blk.setS (Blk.setS (Blk.setS (Blk.setS hc (by omega)) (by omega)) (by omega)) (by omega)
  · exact Below.setS (Below.setS (Below.setS (Below.setS (Below.setS (Below.setS (Below.refl _ _) (by omega)) (by omega)) (by omega)) (by omega)) (by omega)) (by omega)

theorem caught2 {b : Nat} {w : World} {v0 v1 v2 v3 u0 u1 x0 x1 x2 x3 y0 y1 : Value} (hb : Blk w b #[v0, v1, v2, v3] 25) (hc : Blk w (b + 1) #[u0, u1] 32) :
    Blk (((((((w.setCell ⟨b, 0, none⟩ x0).setCell ⟨b, 1, none⟩ x1).setCell ⟨b, 2, none⟩ x2).setCell ⟨b, 3, none⟩ x3).setCell ⟨b + 1, 0, none⟩ y0).setCell ⟨b + 1, 1, none⟩ y1).drew) b #[x0, x1, x2, x3] 25 ∧
    Blk (((((((w.setCell ⟨b, 0, none⟩ x0).setCell ⟨b, 1, none⟩ x1).setCell ⟨b, 2, none⟩ x2).setCell ⟨b, 3, none⟩ x3).setCell ⟨b + 1, 0, none⟩ y0).setCell ⟨b + 1, 1, none⟩ y1).drew) (b + 1) #[y0, y1] 32 ∧
    Below b w (((((((w.setCell ⟨b, 0, none⟩ x0).setCell ⟨b, 1, none⟩ x1).setCell ⟨b, 2, none⟩ x2).setCell ⟨b, 3, none⟩ x3).setCell ⟨b + 1, 0, none⟩ y0).setCell ⟨b + 1, 1, none⟩ y1).drew) := by
  have h := caught (x0 := x0) (x1 := x1) (x2 := x2) (x3 := x3) (y0 := y0) (y1 := y1) hb hc
  unfold Go.Proofs.Ytfndldfnlncabaa.lay2 lay4 at h
  generalize ((((((w.setCell ⟨b, 0, none⟩ x0).setCell ⟨b, 1, none⟩ x1).setCell ⟨b, 2, none⟩ x2).setCell ⟨b, 3, none⟩ x3).setCell ⟨b + 1, 0, none⟩ y0).setCell ⟨b + 1, 1, none⟩ y1) = W at h ⊢
  exact ⟨h.1, h.2.1, h.2.2.drew⟩

theorem as32 (v : Value) (w : World) : (Instr.typeAssert (.iface 32 v) 20 32 false).run Try.prog w = .ok v w := by kernel_rfl

set_option maxHeartbeats 1000000 in
theorem catch_fault (b : Nat) (x y : Int) (older : List PanicEntry) (w : World) (v0 v1 v2 v3 u0 u1 : Value) (hb : Blk w b #[v0, v1, v2, v3] 25) (hc : Blk w (b + 1) #[u0, u1] 32) :
    CallsD Try.prog 39 #[.pointer (some ⟨b, 0, none⟩), .pointer (some ⟨b + 1, 0, none⟩)] (.panicking ({ v := .iface 32 (fv x y), recovered := false } :: older)) w fun e u' w' =>
      e = .returned (.tuple #[]) ∧ u' = .panicking ({ v := .iface 32 (fv x y), recovered := true } :: older) ∧ Blk w' b #[.int .i64 0, .string emptyB, .slice none 0 0, .slice none 0 0] 25 ∧ Blk w' (b + 1) #[.int .i64 x, .int .i64 y] 32 ∧ Below b w w' := by
  refine callsD_of_wpS Try.func39 rfl fun c₀ cs hu => ?_
  apply wpS_seq
  apply wpS_region
  simp [wpOpsS, go_sem, recoverD, hu, Try.ntmps39, Exit.thenS]
  apply wpS_seq
  apply wpS_region
  simp [wpOpsS, go_sem, Exit.thenS, fv]
  refine wpS_cond (t := true) (by simp [Act.eval, Array.replicate]) ?_
  simp only [if_true]
  refine wpS_of_wp ?_
  simp only [Array.replicate, List.replicate]
  have has := as32
  have d0 : w.cell? ⟨b, 0, none⟩ = some v0 := hb.cell 0
  have d1 : w.cell? ⟨b, 1, none⟩ = some v1 := hb.cell 1
  have d2 : w.cell? ⟨b, 2, none⟩ = some v2 := hb.cell 2
  have d3 : w.cell? ⟨b, 3, none⟩ = some v3 := hb.cell 3
  have e0 : w.cell? ⟨b + 1, 0, none⟩ = some u0 := hc.cell 0
  have e1 : w.cell? ⟨b + 1, 1, none⟩ = some u1 := hc.cell 1
  have z0 : w.frozen? ⟨b, 0, none⟩ = false := hb.free 0
  have z1 : w.frozen? ⟨b, 1, none⟩ = false := hb.free 1
  have z2 : w.frozen? ⟨b, 2, none⟩ = false := hb.free 2
  have z3 : w.frozen? ⟨b, 3, none⟩ = false := hb.free 3
  have y0 : w.frozen? ⟨b + 1, 0, none⟩ = false := hc.free 0
  have y1 : w.frozen? ⟨b + 1, 1, none⟩ = false := hc.free 1
  go_region
  all_goals
    simp only [bodyPostS]
    refine ⟨trivial, _, rfl, .tuple #[], results_none rfl _ _ _, rfl, rfl, ?_⟩
    exact caught2 hb hc
end Go.Proofs.Ytfndldfnlncabaa
