/- The walks of the reader's small methods: skip, peek, name; and of fail. -/
import Derived.Test.YtfndldfnlncabaaUnquote
import Derived.Test.YtfndldfnlncabaaShelf
import Derived.Test.YtfndldfnlncabaaPlain
import Derived.Deep.LoopGhost
namespace Go.Proofs.Ytfndldfnlncabaa
set_option linter.unnecessarySimpa false
set_option linter.deprecated false
open Go.RowKit
set_option linter.unusedVariables false
set_option linter.unusedSimpArgs false

/-- The reader's block. -/
def Rd (w : World) (g : Nat) (s : ByteArray) (p : Nat) : Prop := Blk w g #[.string s, .int .i64 (p : Int)] 66
/-- But for block g all that was there is as it was. -/
structure Fr (g : Nat) (wa w : World) : Prop where
  os : w.os = wa.os
  tape : w.tape = wa.tape
  output : w.output = wa.output
  size : wa.heap.size ≤ w.heap.size
  block : ∀ k, k < wa.heap.size → k ≠ g → w.heap[k]? = wa.heap[k]?
theorem Fr.refl (g : Nat) (w : World) : Fr g w w := ⟨rfl, rfl, rfl, Nat.le_refl _, fun _ _ _ => rfl⟩
theorem Fr.trans {g : Nat} {a b c : World} (h : Fr g a b) (k : Fr g b c) : Fr g a c :=
  ⟨k.os.trans h.os, k.tape.trans h.tape, k.output.trans h.output, Nat.le_trans h.size k.size, fun i hi hg => (k.block i (Nat.lt_of_lt_of_le hi h.size) hg).trans (h.block i hi hg)⟩
theorem Fr.of {g : Nat} {a b : World} (h : Below a.heap.size a b) : Fr g a b := ⟨h.os, h.tape, h.output, h.size, fun i hi _ => h.block i hi⟩
theorem Fr.drewS {g : Nat} {a w : World} (h : Fr g a w) : Fr g a w.drew := ⟨h.os, h.tape, h.output, h.size, h.block⟩
theorem Fr.drewNS {g : Nat} {a w : World} (h : Fr g a w) {n : Nat} : Fr g a (w.drewN n) := ⟨h.os, h.tape, h.output, h.size, h.block⟩
theorem Fr.allocS {g : Nat} {a w : World} (h : Fr g a w) {o : Obj} : Fr g a (w.alloc o) := h.trans (.of ((Below.refl _ _).alloc (Nat.le_refl _) _))
theorem Fr.setS {g : Nat} {a w : World} (h : Fr g a w) {i : Nat} {v : Value} : Fr g a (w.setCell ⟨g, i, none⟩ v) :=
  h.trans ⟨rfl, rfl, rfl, by simp [World.setCell], fun k _ hk => Below.heap_setCell _ _ _ _ hk⟩
theorem Fr.keep {g : Nat} {a w : World} (h : Fr g a w) {ok : Nat → Prop} (hg : ∀ k, ok k → k ≠ g) : Keep ok a w := ⟨h.size, fun k hk hi => h.block k hi (hg k hk)⟩
theorem Fr.toBelow {g : Nat} {a w : World} (h : Fr g a w) {B : Nat} (hB : B ≤ a.heap.size) (hg : B ≤ g) : Below B a w := ⟨h.os, h.tape, h.output, h.size, fun k hk => h.block k (by omega) (by omega)⟩

theorem Fr.setN {g : Nat} {a w : World} (h : Fr g a w) {b i : Nat} {v : Value} (hb : a.heap.size ≤ b) : Fr g a (w.setCell ⟨b, i, none⟩ v) :=
  ⟨h.os, h.tape, h.output, by rw [size_setCell]; exact h.size, fun k hk hg => (Below.heap_setCell _ _ _ _ (by show k ≠ b; omega)).trans (h.block k hk hg)⟩
theorem Rd.setS {w : World} {g : Nat} {s : ByteArray} {p : Nat} (h : Rd w g s p) {b i : Nat} {v : Value} (hb : b ≠ g) : Rd (w.setCell ⟨b, i, none⟩ v) g s p :=
  (Below.heap_setCell _ _ _ _ (fun e => hb e.symm)).trans h
theorem Rd.cell0 {w : World} {g : Nat} {s : ByteArray} {p : Nat} (h : Rd w g s p) : w.cell? ⟨g, 0, none⟩ = some (.string s) := Blk.cell h 0
theorem Rd.cell1 {w : World} {g : Nat} {s : ByteArray} {p : Nat} (h : Rd w g s p) : w.cell? ⟨g, 1, none⟩ = some (.int .i64 (p : Int)) := Blk.cell h 1
theorem Rd.free1 {w : World} {g : Nat} {s : ByteArray} {p : Nat} (h : Rd w g s p) : w.frozen? ⟨g, 1, none⟩ = false := Blk.free h 1
theorem Rd.lt {w : World} {g : Nat} {s : ByteArray} {p : Nat} (h : Rd w g s p) : g < w.heap.size := Blk.lt h
theorem Rd.set {w : World} {g : Nat} {s : ByteArray} {p : Nat} (h : Rd w g s p) (q : Nat) {z : Int} (hz : z = (q : Int)) : Rd (w.setCell ⟨g, 1, none⟩ (.int .i64 z)) g s q := by
  subst hz
  unfold Rd Blk at h ⊢
  simp only [World.setCell, Array.getElem?_modify, h]
  simp
theorem Rd.drewS {w : World} {g : Nat} {s : ByteArray} {p : Nat} (h : Rd w g s p) : Rd w.drew g s p := h
theorem Rd.drewNS {w : World} {g : Nat} {s : ByteArray} {p : Nat} (h : Rd w g s p) {n : Nat} : Rd (w.drewN n) g s p := h
theorem Rd.allocS {w : World} {g : Nat} {s : ByteArray} {p : Nat} (h : Rd w g s p) {o : Obj} : Rd (w.alloc o) g s p := Blk.alloc h o
theorem Rd.below {w w' : World} {g : Nat} {s : ByteArray} {p : Nat} (h : Rd w g s p) (hb : Below w.heap.size w w') : Rd w' g s p := Blk.below h hb

theorem index_blank (c : UInt8) : decide (0 ≤ Lib.indexByte [32, 9, 10, 13] c) = blankB c := by
  by_cases h1 : c = 32
  · subst h1; decide
  by_cases h2 : c = 9
  · subst h2; decide
  by_cases h3 : c = 10
  · subst h3; decide
  by_cases h4 : c = 13
  · subst h4; decide
  have e : Lib.indexByte [32, 9, 10, 13] c = -1 := by
    simp [Lib.indexByte, Ne.symm h1, Ne.symm h2, Ne.symm h3, Ne.symm h4]
  rw [e]
  simp [blankB, h1, h2, h3, h4]

theorem skipL_cons (c : UInt8) (r : List UInt8) : skipL (c :: r) = if blankB c = true then skipL r else c :: r := by
  simp only [skipL, List.dropWhile_cons]
theorem toUInt8_toNat (c : UInt8) : ((c.toNat : Int).toNat.toUInt8) = c := by
  simp

structure SkipRel (g : Nat) (s : ByteArray) (w : World) (res : List UInt8) (p : Nat) (wr : World) : Prop where
  rd : Rd wr g s p
  fr : Fr g w wr
  le : p ≤ s.size
  eq : skipL (s.data.toList.drop p) = res

set_option maxHeartbeats 4000000 in
set_option maxRecDepth 100000 in
theorem skip_any (g : Nat) (s : ByteArray) (p : Nat) (w : World) (hs : s.size ≤ 65536) (hp : p ≤ s.size) (hr : Rd w g s p) :
    Calls Try.prog 41 #[.pointer (some ⟨g, 0, none⟩)] w fun e w' => e = .returned (.bool (!(skipL (s.data.toList.drop p)).isEmpty)) ∧ Rd w' g s (s.size - (skipL (s.data.toList.drop p)).length) ∧ Fr g w w' := by
  obtain ⟨res, hres⟩ : ∃ res, skipL (s.data.toList.drop p) = res := ⟨_, rfl⟩
  have HR := hide (show SkipRel g s w res p w from ⟨hr, Fr.refl _ _, hp, hres⟩)
  rw [hres]
  clear hres hr hp
  go_enter Try.func41, Try.ntmps41
  go_wp2_with fail
  go_loopg [] (s.size - p) (fun n wr => ∃ q, Hid (n = s.size - q) ∧ Hid (SkipRel g s w res q wr))
  case atStart => exact ⟨p, rfl, HR.out⟩
  case round =>
    obtain ⟨q, hn, hq⟩ := hrel
    have c0 := hq.out.rd.cell0
    have c1 := hq.out.rd.cell1
    have z1 := hq.out.rd.free1
    have hlt := hq.out.rd.lt
    have hle := hq.out.le
    by_cases hqs : q < s.size
    · have hqi : (q : Int) < (s.size : Int) := by omega
      have hqd : decide ((q : Int) < (s.size : Int)) = true := decide_eq_true hqi
      generalize hc : s[q]'hqs = c
      have HE := hide (hq.out.eq)
      have hcu := toUInt8_toNat c
      have hbl := index_blank c
      cases hb : blankB c
      · rw [hb] at hbl
        go_wp2_with fail
        go_quiet ((go_at_call 58; exact Calls.quiet_of_same (Try.strings_IndexByte _ _ _)))
        have HP := hide (show s.size - res.length = q ∧ res.isEmpty = false from by
          have h := HE.out
          rw [drop_at s q hqs, hc, skipL_cons, hb] at h
          simp only [Bool.false_eq_true, if_false] at h
          rw [← h, List.length_cons, List.length_drop, size_len]
          exact ⟨by omega, rfl⟩)
        go_wp2_with fail
        go_quiet (fail)
        go_wp2_with fail
        go_ret
        exact ⟨by rw [HP.out.2]; rfl, by rw [HP.out.1]; exact hq.out.rd, hq.out.fr.drewNS.drewNS⟩
      · rw [hb] at hbl
        go_wp2_with fail
        go_quiet ((go_at_call 58; exact Calls.quiet_of_same (Try.strings_IndexByte _ _ _)))
        go_wp2_with fail
        go_roundg (s.size - (q + 1))
        case measure => rw [hn.out]; omega
        case rel =>
          refine ⟨q + 1, rfl, hide ⟨?_, ?_, hqs, ?_⟩⟩
          · exact Rd.set (hq.out.rd.drewNS) (q + 1) (by omega)
          · exact (hq.out.fr.drewNS).setS
          · have h := HE.out
            rw [drop_at s q hqs, hc, skipL_cons, hb, if_pos rfl] at h
            exact h
    · have hqi : ¬ (q : Int) < (s.size : Int) := by omega
      have hqd : decide ((q : Int) < (s.size : Int)) = false := decide_eq_false hqi
      have HP := hide (show res = [] ∧ s.size = q from by
        have h := hq.out.eq
        rw [List.drop_eq_nil_of_le (by rw [size_len]; omega)] at h
        exact ⟨h.symm, by omega⟩)
      go_wp2_with fail
      go_quiet (fail)
      go_wp2_with fail
      go_quiet (fail)
      go_wp2_with fail
      go_ret
      refine ⟨by rw [HP.out.1]; rfl, ?_, hq.out.fr.drewNS.drewNS⟩
      rw [HP.out.1, List.length_nil, Nat.sub_zero]
      have h := hq.out.rd
      rw [← HP.out.2] at h
      exact h
end Go.Proofs.Ytfndldfnlncabaa
