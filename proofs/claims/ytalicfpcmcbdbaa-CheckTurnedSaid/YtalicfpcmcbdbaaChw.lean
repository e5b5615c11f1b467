/- What Check answers. -/
import Derived.Test.YtalicfpcmcbdbaaChk
import Derived.Test.YtalicfpcmcbdbaaRej
set_option linter.unusedVariables false
set_option linter.unusedSimpArgs false
set_option linter.unnecessarySimpa false
set_option linter.deprecated false
namespace Go.Proofs.Ytalicfpcmcbdbaa
open Go.RowKit

/-- A definition that the walks bear. -/
structure Small (d : Df) : Prop where
  pl : d.prods.length ≤ 99999
  sl : ∀ p ∈ d.prods, p.syms.length ≤ 10000
  ul : (usedL d).length ≤ 99000
  ct : ∀ ch ∈ d.chains, (chainN ch).length ≤ 99999
  bl : d.boxes.length ≤ 100000
theorem Small.pl5 {d : Df} (h : Small d) : d.prods.length ≤ 100000 := by have := h.pl; omega
theorem Small.sl5 {d : Df} (h : Small d) : ∀ p ∈ d.prods, p.syms.length ≤ 100000 := fun p hp => by have := h.sl p hp; omega
theorem Small.nl {d : Df} (h : Small d) : (d.prods.flatMap namesL).length ≤ 99999 := by
  have := h.ul
  unfold usedL at this
  simp only [List.length_append] at this
  omega
theorem rejN_len : ∀ l : List Rj, (l.flatMap rejN).length = 2 * l.length
  | [] => rfl
  | x :: l => by rw [List.flatMap_cons, List.length_append, rejN_len l]; simp [rejN]; omega
theorem Small.rl {d : Df} (h : Small d) : d.rejects.length + d.follows.length ≤ 100000 := by
  have := h.ul
  unfold usedL at this
  simp only [List.length_append, List.length_map, rejN_len] at this
  omega
theorem bareL_len (p : Pd) : (bareL p).length ≤ 1 := by
  unfold bareL
  split
  · split <;> simp
  · simp
theorem bareL_all : ∀ l : List Pd, (l.flatMap bareL).length ≤ l.length
  | [] => Nat.le_refl _
  | x :: l => by
    rw [List.flatMap_cons, List.length_append]
    have := bareL_all l
    have := bareL_len x
    simp only [List.length_cons]
    omega
theorem Small.al {d : Df} (h : Small d) : (d.prods.flatMap bareL).length ≤ 99999 := Nat.le_trans (bareL_all _) h.pl
noncomputable def checkL (d : Df) : Int × ByteArray := runC (looksL d (cycleL d) (rejectL d))
/-- What Check answers. -/
theorem Check_any (d : Df) (a2 : Option Addr) (c2 : Nat) (a3 : Option Addr) (c3 : Nat) (a4 : Option Addr) (c4 : Nat) (a5 : Option Addr) (c5 : Nat) (a6 : Option Addr) (c6 : Nat) (w : World) (hd : RD d ⟨a2, c2, a3, c3, a4, c4, a5, c5, a6, c6⟩ w) (hs : Small d) :
    Calls Try.prog 14 #[.agg #[.string d.start, .string d.layout, .slice a2 d.prods.length c2, .slice a3 d.chains.length c3, .slice a4 d.follows.length c4, .slice a5 d.rejects.length c5, .slice a6 d.boxes.length c6]] w fun e w' => e = .returned (.tuple #[.int .i64 (checkL d).1, .string (checkL d).2]) ∧ Below w.heap.size w w' := by
  refine check_at d a2 c2 a3 c3 a4 c4 a5 c5 a6 c6 (cycleL d) (rejectL d) w hd hs.pl5 ?_
  intro bb as_ cs m n f1 e1 f2 e2 f3 e3 f4 e4 W hbk k1 l1 k2 l2 k3 l3 k4 l4 x hx
  unfold lkL at hx
  simp only [List.mem_cons, List.not_mem_nil, or_false] at hx
  rcases hx with rfl | rfl | rfl | rfl | rfl | rfl | rfl | rfl | rfl | rfl | rfl | rfl | rfl | rfl
  · exact ⟨(by intro args w; exact enters_of Try.func35 (by kernel_rfl) rfl args w), fun W2 hb => form_any d _ _ _ _ _ _ _ _ _ _ _ _ _ _ bb W2 (hbk.below hb)⟩
  · exact ⟨(by intro args w; exact enters_of Try.func36 (by kernel_rfl) rfl args w), fun W2 hb => mixed_any d _ _ _ _ _ _ _ _ _ _ _ _ _ _ bb W2 (hbk.below hb)⟩
  · exact ⟨(by intro args w; exact enters_of Try.func37 (by kernel_rfl) rfl args w), fun W2 hb => ends_any d _ _ _ _ _ _ _ _ _ _ _ _ _ _ bb W2 (hbk.below hb)⟩
  · exact ⟨(by intro args w; exact enters_of Try.func38 (by kernel_rfl) rfl args w), fun W2 hb => undef_any d _ _ _ _ _ _ _ _ _ _ _ _ _ _ bb W2 (hbk.below hb) hs.ul hs.sl5⟩
  · exact ⟨(by intro args w; exact enters_of Try.func69 (by kernel_rfl) rfl args w), fun W2 hb => each1_at d _ _ _ _ _ _ _ _ _ _ _ _ _ _ bb f1 e1 40 44 (kindB d) (by intro args w; exact enters_of Try.func40 (by kernel_rfl) rfl args w) W2 (hbk.below hb) (k1.below hb) (l1.below hb) (fun W3 x ap cp hx hxo hb3 hr => kind_any d _ _ _ _ _ _ _ _ _ _ _ _ _ _ bb x ap cp W3 hb3 hr)⟩
  · exact ⟨(by intro args w; exact enters_of Try.func41 (by kernel_rfl) rfl args w), fun W2 hb => cons_any d _ _ _ _ _ _ _ _ _ _ _ _ _ _ bb W2 (hbk.below hb)⟩
  · exact ⟨(by intro args w; exact enters_of Try.func69 (by kernel_rfl) rfl args w), fun W2 hb => each1_at d _ _ _ _ _ _ _ _ _ _ _ _ _ _ bb f2 e2 42 46 (bracketB) (by intro args w; exact enters_of Try.func42 (by kernel_rfl) rfl args w) W2 (hbk.below hb) (k2.below hb) (l2.below hb) (fun W3 x ap cp hx hxo hb3 hr => bracket_any bb x ap cp W3 hr (hs.sl5 x hx))⟩
  · exact ⟨(by intro args w; exact enters_of Try.func69 (by kernel_rfl) rfl args w), fun W2 hb => each1_at d _ _ _ _ _ _ _ _ _ _ _ _ _ _ bb f3 e3 43 2 (longB d) (by intro args w; exact enters_of Try.func43 (by kernel_rfl) rfl args w) W2 (hbk.below hb) (k3.below hb) (l3.below hb) (fun W3 x ap cp hx hxo hb3 hr => long_any d _ _ _ _ _ _ _ _ _ _ _ _ _ _ bb x ap cp W3 hb3 hr (hs.sl x hx))⟩
  · exact ⟨(by intro args w; exact enters_of Try.func69 (by kernel_rfl) rfl args w), fun W2 hb => each1_at d _ _ _ _ _ _ _ _ _ _ _ _ _ _ bb f4 e4 44 47 (nullB) (by intro args w; exact enters_of Try.func44 (by kernel_rfl) rfl args w) W2 (hbk.below hb) (k4.below hb) (l4.below hb) (fun W3 x ap cp hx hxo hb3 hr => null_any bb x ap cp W3 hr)⟩
  · exact ⟨(by intro args w; exact enters_of Try.func45 (by kernel_rfl) rfl args w), fun W2 hb => cycle_any d _ _ _ _ _ _ _ _ _ _ _ _ _ _ bb W2 (hbk.below hb) hs.al hs.pl5 hs.sl5⟩
  · exact ⟨(by intro args w; exact enters_of Try.func46 (by kernel_rfl) rfl args w), fun W2 hb => reject_any d _ _ _ _ _ _ _ _ _ _ _ _ _ _ bb W2 (hbk.below hb) hs.pl5 hs.nl hs.sl5 hs.rl⟩
  · exact ⟨(by intro args w; exact enters_of Try.func47 (by kernel_rfl) rfl args w), fun W2 hb => prio_any d _ _ _ _ _ _ _ _ _ _ _ _ _ _ bb W2 (hbk.below hb) hs.ct⟩
  · exact ⟨(by intro args w; exact enters_of Try.func48 (by kernel_rfl) rfl args w), fun W2 hb => follow_any d _ _ _ _ _ _ _ _ _ _ _ _ _ _ bb W2 (hbk.below hb)⟩
  · exact ⟨(by intro args w; exact enters_of Try.func49 (by kernel_rfl) rfl args w), fun W2 hb => box_any d _ _ _ _ _ _ _ _ _ _ _ _ _ _ bb W2 (hbk.below hb) hs.sl5 hs.bl⟩
end Go.Proofs.Ytalicfpcmcbdbaa
