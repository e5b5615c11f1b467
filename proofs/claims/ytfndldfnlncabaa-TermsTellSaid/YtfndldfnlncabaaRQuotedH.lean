/- The walk of the reader's method quoted. -/
import Derived.Test.YtfndldfnlncabaaRQuoted
import Derived.Deep.DeepCutAuto
import Derived.Deep.CutBlock
import Derived.StillTailTactics
set_option linter.unnecessarySimpa false
set_option linter.deprecated false
namespace Go.Proofs.Ytfndldfnlncabaa
open Go.RowKit
set_option linter.unusedVariables false
set_option linter.unusedSimpArgs false

/-- What is known behind the first call of Unquote. -/
structure QCut (g : Nat) (s : ByteArray) (p : Nat) (w : World) (bs : List UInt8) (z code : Int) (a : Option Addr) (f : Nat) (wc : World) : Prop where
  rd : Rd wc g s p
  fr : Fr g w wc
  blk : Blk wc f #[.int .i64 z, .int .i64 code] 32
  new : w.heap.size ≤ f
  bytes : RBo (fun k => w.heap.size ≤ k ∧ k ≠ f) wc a bs
theorem Blk.set2 {w : World} {k : Nat} {a b : Value} {t : TypeId} (h : Blk w k #[a, b] t) (x y : Value) : Blk ((w.setCell ⟨k, 0, none⟩ x).setCell ⟨k, 1, none⟩ y) k #[x, y] t := by
  unfold Blk at h ⊢
  simp only [World.setCell, Array.getElem?_modify, h]
  simp
theorem qcut_new {g : Nat} {s : ByteArray} {p : Nat} {w w1 : World} {bs : List UInt8} {z code : Int} {a : Option Addr} (h0 : Rd w g s p) (hr : Rd w1 g s p) (hf : Fr g w w1) {B : Nat} (hb : RBo (fun k => w.drew.heap.size ≤ k) w1 a bs) (_ : Below B w.drew w1) :
    Hid (QCut g s p w bs z code a w1.heap.size (w1.alloc (.cells #[.int .i64 z, .int .i64 code] 32))) := by
  refine ⟨hr.allocS, hf.allocS, Blk.new _ _ _, hf.size, ?_⟩
  have h1 : RBo (fun k => w.heap.size ≤ k ∧ k ≠ w1.heap.size) w1 a bs := ⟨hb.1, fun hn => by
    obtain ⟨b, o, e, h2, h3, h4⟩ := hb.2 hn
    exact ⟨b, o, e, ⟨h2, by omega⟩, h3, h4⟩⟩
  exact RBo.keep (Keep.refl _ _).allocS h1
theorem qcut_old {g : Nat} {s : ByteArray} {p : Nat} {w w1 : World} {bs : List UInt8} {z code : Int} {a : Option Addr} (h0 : Rd w g s p) (hr : Rd w1 g s p) (hf : Fr g w w1) {u v : Value} (hb : RBo (fun k => (w.alloc (.cells #[u, v] 32)).drew.heap.size ≤ k) w1 a bs)
    (hb1 : Below (w.alloc (.cells #[u, v] 32)).drew.heap.size (w.alloc (.cells #[u, v] 32)).drew w1) :
    Hid (QCut g s p w bs z code a w.heap.size ((w1.setCell ⟨w.heap.size, 0, none⟩ (.int .i64 z)).setCell ⟨w.heap.size, 1, none⟩ (.int .i64 code))) := by
  have hlt := h0.lt
  have hbk : Blk w1 w.heap.size #[u, v] 32 := Blk.below (w := (w.alloc (.cells #[u, v] 32)).drew) (Blk.new w _ _) hb1
  refine ⟨(hr.setS (by omega)).setS (by omega), (hf.setN (Nat.le_refl _)).setN (Nat.le_refl _), hbk.set2 _ _, Nat.le_refl _, ?_⟩
  have h1 : RBo (fun k => w.heap.size ≤ k ∧ k ≠ w.heap.size) w1 a bs := RBo.weak (fun k hk => by
    have : w.heap.size + 1 ≤ k := by simpa using hk
    exact ⟨by omega, by omega⟩) hb
  exact RBo.keep (((Keep.refl _ _).setS (by simp)).setS (by simp)) h1

end Go.Proofs.Ytfndldfnlncabaa
