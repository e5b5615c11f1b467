/- The book; the walk of lexical. -/
import Derived.Test.YtalicfpcmcbdbaaZOpen
set_option linter.unusedVariables false
set_option linter.unusedSimpArgs false
set_option linter.unnecessarySimpa false
set_option linter.deprecated false
namespace Go.Proofs.Ytalicfpcmcbdbaa
open Go.RowKit

/-- The book in memory. -/
structure Book (d : Df) (a2 : Option Addr) (c2 : Nat) (a3 : Option Addr) (c3 : Nat) (a4 : Option Addr) (c4 : Nat) (a5 : Option Addr) (c5 : Nat) (a6 : Option Addr) (c6 : Nat) (as_ : Option Addr) (cs m n : Nat) (bb : Nat) (W : World) : Prop where
  bk : Blk W bb #[.string d.start, .string d.layout, .slice a2 d.prods.length c2, .slice a3 d.chains.length c3, .slice a4 d.follows.length c4, .slice a5 d.rejects.length c5, .slice a6 d.boxes.length c6, .slice as_ (sortsL d.prods).length cs, .map (some m)] 87
  rd : RD d ⟨a2, c2, a3, c3, a4, c4, a5, c5, a6, c6⟩ W
  so : Row StrAt 1 (sortsL d.prods) as_ W
  mp : MapF W m n (lexOf d.prods)
theorem Book.below {d : Df} {a2 : Option Addr} {c2 : Nat} {a3 : Option Addr} {c3 : Nat} {a4 : Option Addr} {c4 : Nat} {a5 : Option Addr} {c5 : Nat} {a6 : Option Addr} {c6 : Nat} {as_ : Option Addr} {cs m n : Nat} {bb : Nat} {W W' : World} (h : Book d a2 c2 a3 c3 a4 c4 a5 c5 a6 c6 as_ cs m n bb W) (hb : Below W.heap.size W W') : Book d a2 c2 a3 c3 a4 c4 a5 c5 a6 c6 as_ cs m n bb W' :=
  ⟨h.bk.below hb, h.rd.below hb, h.so.below StrAt.stable hb, h.mp.below hb⟩
theorem open_any (d : Df) (a2 : Option Addr) (c2 : Nat) (a3 : Option Addr) (c3 : Nat) (a4 : Option Addr) (c4 : Nat) (a5 : Option Addr) (c5 : Nat) (a6 : Option Addr) (c6 : Nat) (w : World) (hd : RD d ⟨a2, c2, a3, c3, a4, c4, a5, c5, a6, c6⟩ w) (hln : d.prods.length ≤ 100000) :
    Calls Try.prog 34 #[.agg #[.string d.start, .string d.layout, .slice a2 d.prods.length c2, .slice a3 d.chains.length c3, .slice a4 d.follows.length c4, .slice a5 d.rejects.length c5, .slice a6 d.boxes.length c6]] w fun e w' => ∃ bb as_ cs m n, e = .returned (.pointer (some ⟨bb, 0, none⟩)) ∧ Hid (Book d a2 c2 a3 c3 a4 c4 a5 c5 a6 c6 as_ cs m n bb w' ∧ OwnS w.heap.size (.slice as_ (sortsL d.prods).length cs) (sortsL d.prods) w' ∧ w.heap.size ≤ bb ∧ Below w.heap.size w w') := by
  refine (open_at d a2 c2 a3 c3 a4 c4 a5 c5 a6 c6 w hd.p hln).mono ?_
  rintro e w' ⟨bb, m, v, he, hh⟩
  obtain ⟨h1, h2, h3, h4, h5, h6⟩ := hh.out
  have hl := sortsL_len d.prods
  obtain ⟨as_, cs, rfl, hr⟩ := h2.row (by omega)
  exact ⟨bb, as_, cs, m, _, he, hide ⟨⟨h1, hd.below h6, hr, h3⟩, h2, h4, h6⟩⟩
set_option maxHeartbeats 4000000 in
set_option maxRecDepth 100000 in
theorem lexical_any (d : Df) (a2 : Option Addr) (c2 : Nat) (a3 : Option Addr) (c3 : Nat) (a4 : Option Addr) (c4 : Nat) (a5 : Option Addr) (c5 : Nat) (a6 : Option Addr) (c6 : Nat) (as_ : Option Addr) (cs m n : Nat) (bb : Nat) (s : ByteArray) (w : World) (h : Book d a2 c2 a3 c3 a4 c4 a5 c5 a6 c6 as_ cs m n bb w) (hs : short s) : Calls Try.prog 63 #[.pointer (some ⟨bb, 0, none⟩), .string s] w fun e w' => e = .returned (.bool (isLex d.prods s true)) ∧ w = w' := by
  have b8 := h.bk.cell 8
  have bl := h.bk.lt
  obtain ⟨n0, hn0⟩ : ∃ n0, lexOf d.prods s = n0 := ⟨_, rfl⟩
  have hlk := h.mp.look s hs
  rw [hn0] at hlk
  have hc : (n0 = 0 ∧ isLex d.prods s true = false) ∨ (n0 = 1 ∧ isLex d.prods s true = true) ∨ (n0 = 2 ∧ isLex d.prods s true = false) ∨ (n0 = 3 ∧ isLex d.prods s true = true) := by
    rw [← hn0]
    unfold lexOf
    cases isLex d.prods s true <;> cases isLex d.prods s false <;> simp
  clear h hs hn0
  rcases hc with ⟨rfl, hl⟩ | ⟨rfl, hl⟩ | ⟨rfl, hl⟩ | ⟨rfl, hl⟩
  all_goals
    have HL := hide hl
    clear hl
    go_enter Try.func63, Try.ntmps63
    go_wp2_with fail
    go_ret
    exact ⟨by rw [HL.out]; rfl, rfl⟩
end Go.Proofs.Ytalicfpcmcbdbaa
