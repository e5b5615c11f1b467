/- What it is for a value to read as a row of numbers; what is handed in reads so. -/
import Derived.Test.YtfndldfnlncabaaArgs
set_option linter.unusedVariables false
set_option linter.unusedSimpArgs false
set_option linter.unnecessarySimpa false
set_option linter.deprecated false
namespace Go.Proofs.Ytfndldfnlncabaa
open Go.ChangeShapes Go.WideShapes Go.ChangeAt Go.RowKit

/-- A slice of numbers reads as a list. -/
structure RI (w : World) (a : Option Addr) (l : List Int) : Prop where
  len : l.length ≤ 17592186043904
  fit : ∀ x ∈ l, -9223372036854775808 ≤ x ∧ x ≤ 9223372036854775807
  at_ : l ≠ [] → ∃ b o, a = some ⟨b, o, none⟩ ∧ b < w.heap.size ∧ ∀ i (h : i < l.length), w.cell? ⟨b, o + i, none⟩ = some (.int .i64 l[i])
theorem RI.below {w w' : World} {a : Option Addr} {l : List Int} (h : RI w a l) (hb : Below w.heap.size w w') : RI w' a l :=
  ⟨h.len, h.fit, fun hn => by
    obtain ⟨b, o, e, hlt, hc⟩ := h.at_ hn
    exact ⟨b, o, e, Nat.lt_of_lt_of_le hlt hb.size, fun i hi => (hb.cell (p := ⟨b, o + i, none⟩) hlt).trans (hc i hi)⟩⟩
/-- A value reads as a row of numbers. -/
def RV (w : World) (l : List Int) (v : Value) : Prop := ∃ a c, v = .slice a l.length c ∧ RI w a l

section
variable {H : Type} {enc : TypeId × Value → H} {w : World} {spare : Nat → Bool} {held : Bool}
set_option maxRecDepth 100000 in
theorem open_path {base : Nat} {v : Value} {d : DataW H} {p : List MemPlace} (hv : Value.okWide Try.prog w .any base 37 v) (h : DataW.Trod enc Try.prog w 0 spare held 37 v d p)
    (hw : ∀ n ∈ DataW.weights Try.prog 37 d, n ≤ 140737488351232) : ∃ l, RV w l v := by
  obtain ⟨a, len, cap, rfl⟩ := okWide_slice Try.underlying37 hv
  obtain ⟨fuel, hf⟩ := h
  have hcs : (Value.slice a len cap).cells.toList = [.slice a len cap] := rfl
  rw [hcs] at hf
  rcases open_ints Try.underlying37 Try.underlying3 (by kernel_rfl) hf with ⟨e, hd⟩ | ⟨x, len', cap', zs, e, hb, hl, hm, hz, hd, hc, hwf⟩
  · obtain ⟨rfl, rfl, rfl⟩ : a = none ∧ len = 0 ∧ cap = 0 := by simpa using e
    exact ⟨[], none, 0, rfl, by simp, (fun x hx => by cases hx), fun hn => absurd rfl hn⟩
  · obtain ⟨rfl, rfl, rfl⟩ : a = some x ∧ len = len' ∧ cap = cap' := by simpa using e
    have hd' : d = _ := (Prod.mk.inj hd).1
    subst hd'
    have hle : len ≤ zs.length := by rw [hz]; split <;> omega
    have hlen : zs.length ≤ 17592186043904 := by
      have h8 : Try.prog.bytesOf 3 = 8 := by kernel_rfl
      have := hw (zs.length * 8) (by
        rw [DataW.weights, Try.underlying37]
        simp only [h8, lits, List.length_map, List.length_take, List.length_drop]
        refine List.mem_cons.2 (Or.inl ?_)
        congr 1
        omega)
      omega
    refine ⟨zs.take len, some x, cap, ?_, ?_, ?_, ?_⟩
    · rw [List.length_take, Nat.min_eq_left hle]
    · rw [List.length_take]; omega
    · intro n hn
      have e3 := hwf n (List.mem_of_mem_take hn)
      simp only [Lit.wf, Bool.and_eq_true, decide_eq_true_eq] at e3
      exact e3
    · intro hn
      have hpos : 0 < len := by
        rcases Nat.eq_zero_or_pos len with h0 | h0
        · subst h0; simp at hn
        · exact h0
      have h0 := cell_spot (hc 0 (by omega))
      obtain ⟨b, o, sp⟩ := x
      obtain ⟨h1, h2⟩ := h0
      have h1' : sp = none := h1
      subst h1'
      refine ⟨b, o, rfl, h2, fun i hi => ?_⟩
      rw [List.length_take] at hi
      have hi' : i < zs.length := by omega
      have e1 := hc i hi'
      have e2 : zs.getD i 0 = zs[i] := by simp [List.getD, List.getElem?_eq_getElem hi']
      rw [e2, add_mk] at e1
      rw [e1]
      simp
end
end Go.Proofs.Ytfndldfnlncabaa
