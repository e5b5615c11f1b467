/- What is handed in reads as a set, as bytes. -/
import Derived.Test.YtfngkdcjifdliaaEqT
import Derived.ProofKit
import Derived.OpenShut
import Derived.ShutString
import Derived.SizedLaws
import Derived.Below
import Derived.Laws.IdiomArrays
set_option linter.unusedVariables false
set_option linter.unusedSimpArgs false
set_option linter.unnecessarySimpa false
set_option linter.deprecated false
namespace Go.Proofs.Ytfngkdcjifdliaa
open Go.ChangeShapes Go.WideShapes Go.ChangeAt Go.RowKit
section
variable {H : Type} {enc : TypeId × Value → H} {w : World} {spare : Nat → Bool} {held : Bool}

theorem cell_spot {a : Addr} {v : Value} (h : w.cell? a = some v) : a.spot = none ∧ a.block < w.heap.size := by
  unfold World.cell? at h
  split at h
  · rename_i c _ _ hb
    refine ⟨?_, (Array.getElem?_eq_some_iff.1 hb).1⟩
    cases hs : a.spot with
    | none => rfl
    | some s => rw [hs] at h; simp at h
  · cases h

theorem add_more (a : Addr) (m n : Nat) : (a.add m).add n = a.add (m + n) := by
  unfold Addr.add
  by_cases hm : m = 0
  · subst m; simp
  · by_cases hn : n = 0
    · subst n; simp [hm]
    · simp [hm, hn, Nat.add_assoc]

theorem bytes_reads {fuel : Nat} {cs : List Value} {x : DataW H × List MemPlace} (h : DataW.trod enc Try.prog w 0 spare held fuel 25 cs = some x)
    (hw : ∀ n ∈ DataW.weights Try.prog 25 x.1, n ≤ 140737488351232) : ∃ a c bs, cs = [.slice a (bs : List UInt8).length c] ∧ RB w a bs := by
  rcases open_ints Try.underlying25 Try.underlying5 (by kernel_rfl) h with ⟨rfl, rfl⟩ | ⟨a, len, cap, zs, rfl, hb, hl, hm, hz, rfl, hc, hwf⟩
  · exact ⟨none, 0, [], rfl, ⟨by simp, fun hn => absurd rfl hn⟩⟩
  · have hle : len ≤ zs.length := by rw [hz]; split <;> omega
    have hlen : zs.length ≤ 140737488351232 := by
      have h5 : Try.prog.bytesOf 5 = 1 := by kernel_rfl
      have := hw (zs.length * 1) (by
        rw [DataW.weights, Try.underlying25]
        simp only [h5, lits, List.length_map, List.length_take, List.length_drop]
        refine List.mem_cons.2 (Or.inl ?_)
        omega)
      omega
    refine ⟨some a, cap, (zs.take len).map fun n => UInt8.ofNat n.toNat, ?_, ?_⟩
    · rw [List.length_map, List.length_take, Nat.min_eq_left hle]
    · refine ⟨by rw [List.length_map, List.length_take]; omega, fun hn => ?_⟩
      have hpos : 0 < len := by
        rcases Nat.eq_zero_or_pos len with h0 | h0
        · subst h0; simp at hn
        · exact h0
      have h0 := cell_spot (hc 0 (by omega))
      obtain ⟨b, o, sp⟩ := a
      obtain ⟨h1, h2⟩ := h0
      have h1' : sp = none := h1
      subst h1'
      refine ⟨b, o, rfl, trivial, h2, fun i hi => ?_⟩
      rw [List.length_map, List.length_take, Nat.min_eq_left hle] at hi
      have hi' : i < zs.length := by omega
      have e1 := hc i hi'
      have e2 : zs.getD i 0 = zs[i] := by simp [List.getD, List.getElem?_eq_getElem hi']
      have e3 := hwf _ (List.getElem_mem hi')
      have e4 : 0 ≤ zs[i] ∧ zs[i] ≤ 255 := by
        simp only [Lit.wf, Bool.and_eq_true, decide_eq_true_eq] at e3
        exact e3
      rw [e2] at e1
      rw [show (⟨b, o + i, none⟩ : Addr) = (⟨b, o, none⟩ : Addr).add i by simp [Addr.add], e1]
      simp only [List.getElem?_map, List.getElem?_take, hi, if_true, List.getElem?_eq_getElem hi', Option.map_some, Option.getD_some, UInt8.toNat_ofNat']
      congr 2
      omega

/-- An argument of the type of bytes. -/
theorem open_bytes {base : Nat} {v : Value} {d : DataW H} {p : List MemPlace} (hv : Value.okWide Try.prog w .any base 25 v) (h : DataW.Trod enc Try.prog w 0 spare held 25 v d p)
    (hw : ∀ n ∈ DataW.weights Try.prog 25 d, n ≤ 140737488351232) : ∃ a c bs, v = .slice a (bs : List UInt8).length c ∧ RB w a bs := by
  obtain ⟨a, len, cap, rfl⟩ := okWide_slice Try.underlying25 hv
  obtain ⟨fuel, hf⟩ := h
  have hcs : (Value.slice a len cap).cells.toList = [.slice a len cap] := rfl
  rw [hcs] at hf
  obtain ⟨a2, c, bs, e, hb⟩ := bytes_reads hf hw
  injection e with e _
  exact ⟨a2, c, bs, e, hb⟩
/-- An argument of the type of sets. -/
theorem open_set {base : Nat} {v : Value} {d : DataW H} {p : List MemPlace} (hv : Value.okWide Try.prog w .any base 24 v) (h : DataW.Trod enc Try.prog w 0 spare held 24 v d p) :
    ∃ s : St, s.ok ∧ v = .agg #[.int .u64 (s.w0 : Int), .int .u64 (s.w1 : Int), .int .u64 (s.w2 : Int), .int .u64 (s.w3 : Int)] := by
  obtain ⟨fuel, hf⟩ := h
  unfold Value.okWide at hv
  rw [Try.underlying24] at hv
  obtain ⟨cs, rfl, hsz, _⟩ := hv
  obtain ⟨cs⟩ := cs
  have h4 : cs.length = 4 := by rw [cells24] at hsz; exact hsz
  match cs, h4 with
  | [c0, c1, c2, c3], _ =>
  obtain ⟨y0, y1, y2, y3, n, _, g0, g1, g2, g3⟩ := trod_array4 Try.underlying24 cells22 hf
  obtain ⟨k0, e0, _, wf0⟩ := DataW.trod_int und22 g0
  obtain ⟨k1, e1, _, wf1⟩ := DataW.trod_int und22 g1
  obtain ⟨k2, e2, _, wf2⟩ := DataW.trod_int und22 g2
  obtain ⟨k3, e3, _, wf3⟩ := DataW.trod_int und22 g3
  have key : ∀ k : Int, (Lit.int .u64 k).wf = true → k.toNat < 18446744073709551616 ∧ (k.toNat : Int) = k := by
    intro k hk
    simp only [Lit.wf, Bool.and_eq_true, decide_eq_true_eq] at hk
    have h1 : (0 : Int) ≤ k := hk.1
    have h2 : k ≤ 18446744073709551615 := hk.2
    omega
  obtain ⟨a0, b0⟩ := key _ wf0
  obtain ⟨a1, b1⟩ := key _ wf1
  obtain ⟨a2, b2⟩ := key _ wf2
  obtain ⟨a3, b3⟩ := key _ wf3
  injection e0 with e0 _
  injection e1 with e1 _
  injection e2 with e2 _
  injection e3 with e3 _
  exact ⟨⟨k0.toNat, k1.toNat, k2.toNat, k3.toNat⟩, ⟨a0, a1, a2, a3⟩, by rw [e0, e1, e2, e3, b0, b1, b2, b3]⟩
theorem trod_old {t : TypeId} {v : Value} {d : DataW H} {p : List MemPlace} (h : DataW.Trod enc Try.prog w 0 spare held t v d p) : ∀ x ∈ p, x.block < w.heap.size := by
  obtain ⟨m, hm⟩ := h
  exact DataW.trod_lt m _ _ _ hm
end
end Go.Proofs.Ytfngkdcjifdliaa
