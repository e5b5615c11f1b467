/- The walk of terms.Parse where something is left, and its contract. -/
import Derived.Test.YtfndldfnlncabaaParseA
set_option linter.unnecessarySimpa false
set_option linter.deprecated false
namespace Go.Proofs.Ytfndldfnlncabaa
open Go.RowKit
set_option linter.unusedVariables false
set_option linter.unusedSimpArgs false

set_option maxHeartbeats 2000000 in
set_option maxRecDepth 100000 in
theorem parse_rest (s : ByteArray) (w : World) (hs : s.size ≤ 65536) (T : Tm) (l : List UInt8) (hT : termL 200 s.data.toList = .ok T l) (d : UInt8) (r3 : List UInt8) (hK : skipL l = d :: r3) :
    Calls Try.prog 16 #[.string s] w fun e w' => e = .returned (.tuple #[.agg #[.int .i64 0, .string emptyB, .slice none 0 0, .slice none 0 0], fv ((s.size - (d :: r3).length : Nat) : Int) 15]) ∧ Below w.heap.size w w' := by
  have hmf : ∀ (fn : Fn) (first cap : Array Value) (w : World), (Instr.makeFunc fn first cap).run Try.prog w = .ok (.func fn first cap) w := fun _ _ _ _ => rfl
  have hi : ¬ (65536 : Int) < (s.size : Int) := by omega
  have HP := hide (Par.start w s)
  have HT := hide (term_any s hs 200 (by omega) (w.heap.size + 2) 0 (par0 w s) (by omega) HP.out.rd)
  have hlen : l.length ≤ s.size := by have := (termL_tail 200 _ _ _ hT).1.length_le; rw [size_len] at this; exact this
  have hdr : s.data.toList.drop (s.size - l.length) = l := by have := drop_suffix (termL_tail 200 _ _ _ hT).1; rw [size_len] at this; exact this
  rw [List.drop_zero, hT] at HT
  go_enter_defers Try.func16, Try.ntmps16
  go_wp2_with fail
  change Calls Try.prog 40 #[.pointer (some ⟨w.heap.size + 2, 0, none⟩), .int .i64 200] (par0 w s) _
  refine HT.out.mono ?_
  rintro e1 w1 ⟨⟨v, rfl, hv, hr1⟩, hf1⟩
  obtain ⟨a1, k1, a2, k2, rfl, hkk, hcc, _, hrr⟩ := hv.open
  have HX := hide hv
  have HP1 := hide (HP.out.step hr1 hf1)
  have HS := hide (par0_size w s)
  clear hv hkk hcc hrr hr1 hf1
  obtain ⟨u0, u1, u2, u3, ht⟩ := HP1.out.t
  have d0 := ht.cell 0
  have d1 := ht.cell 1
  have d2 := ht.cell 2
  have d3 := ht.cell 3
  have dz0 := ht.free 0
  have dz1 := ht.free 1
  have dz2 := ht.free 2
  have dz3 := ht.free 3
  have hsz := ht.lt
  clear ht
  have HL := hide (par_lay (v0 := .int .i64 T.kind) (v1 := .string T.cons) (v2 := .slice a1 T.text.length k1) (v3 := .slice a2 T.kids.length k2) HP1.out)
  have HK := hide (skip_any (w.heap.size + 2) s (s.size - l.length) _ hs (by omega) HL.out.1.rd)
  rw [hdr, hK] at HK
  simp only [List.isEmpty_cons, Bool.not_false] at HK
  generalize hq3 : s.size - (d :: r3).length = q3 at HK ⊢
  have hq3i : (q3 : Int) ≤ 65536 := by omega
  go_wp2_with fail
  change Calls Try.prog 41 #[.pointer (some ⟨w.heap.size + 2, 0, none⟩)] (lay4 w1 w.heap.size (.int .i64 T.kind) (.string T.cons) (.slice a1 T.text.length k1) (.slice a2 T.kids.length k2)) _
  refine HK.out.mono ?_
  rintro e2 w2 ⟨rfl, hr2, hf2⟩
  have HP2 := hide (HL.out.1.step hr2 hf2)
  have HB := hide (HL.out.2.keep (ok := fun k => k ≠ w.heap.size + 2) (hf2.keep fun k hk => hk) (by show _ ≠ _; omega))
  have r1 : w2.cell? ⟨w.heap.size + 1 + 1, 1, none⟩ = some (.int .i64 (q3 : Int)) := hr2.cell1
  have hlt2 : w.heap.size + 1 + 1 < w2.heap.size := hr2.lt
  clear hr2 hf2 d0 d1 d2 d3 dz0 dz1 dz2 dz3 hsz
  go_wp2_with fail
  refine (fail_any _ _ _).mono ?_
  rintro e3 w3 ⟨rfl, rfl⟩
  unfold faultP
  go_wp2_with fail
  refine leaves_cons (f := 39) (args := #[.pointer (some ⟨w.heap.size, 0, none⟩), .pointer (some ⟨w.heap.size + 1, 0, none⟩)]) (by simp) (by simp [go_sem]) ?_
  refine (catch_fault w.heap.size _ _ [] w2 _ _ _ _ _ _ HB.out HP2.out.f).mono ?_
  rintro e u' w4 ⟨rfl, rfl, hr0, hr1, hb⟩
  have f0 : w4.cell? ⟨w.heap.size, 0, none⟩ = some (.int .i64 0) := hr0.cell 0
  have f1 : w4.cell? ⟨w.heap.size, 1, none⟩ = some (.string emptyB) := hr0.cell 1
  have f2 : w4.cell? ⟨w.heap.size, 2, none⟩ = some (.slice none 0 0) := hr0.cell 2
  have f3 : w4.cell? ⟨w.heap.size, 3, none⟩ = some (.slice none 0 0) := hr0.cell 3
  have g0 : w4.cell? ⟨w.heap.size + 1, 0, none⟩ = some (.int .i64 (q3 : Int)) := hr1.cell 0
  have g1 : w4.cell? ⟨w.heap.size + 1, 1, none⟩ = some (.int .i64 15) := hr1.cell 1
  have hB := HP2.out.below.trans hb
  simp [Leaves, settle, results, Try.results16, go_sem, f0, f1, f2, f3, g0, g1, fv, hB]
  rw [← hq3, List.length_cons]

/-- A text parsed: the term, the place and the error. -/
def parseR (s : ByteArray) : Tm × Int × Int :=
  if 65536 < s.size then (zT, 0, 2)
  else match parseL s.data.toList with
    | .ok T _ => (T, 0, 0)
    | .bad m c => (zT, ((s.size - m : Nat) : Int), c)

/-- The contract of Parse. -/
theorem parse_any (s : ByteArray) (w : World) (hz : s.size ≤ 9223372036854775807) :
    Calls Try.prog 16 #[.string s] w fun e w' => (∃ v, e = .returned (.tuple #[v, fv (parseR s).2.1 (parseR s).2.2]) ∧ RTo (fun k => w.heap.size ≤ k) w' (parseR s).1 v) ∧ Below w.heap.size w w' := by
  have hzero : ∀ (w' : World), RTo (fun k => w.heap.size ≤ k) w' zT (.agg #[.int .i64 0, .string emptyB, .slice none 0 0, .slice none 0 0]) := fun w' => RTo.shut (by decide) (by decide) RBo.nil RKo.nil rfl rfl
  unfold parseR
  by_cases hs : 65536 < s.size
  · rw [if_pos hs]
    refine (parse_long s w hs hz).mono ?_
    rintro e w' ⟨rfl, hb⟩
    exact ⟨⟨_, rfl, hzero _⟩, hb⟩
  · rw [if_neg hs]
    unfold parseL
    cases hT : termL 200 s.data.toList with
    | bad m c =>
      refine (parse_bad s w (by omega) m c hT).mono ?_
      rintro e w' ⟨rfl, hb⟩
      exact ⟨⟨_, rfl, hzero _⟩, hb⟩
    | ok T l =>
      simp only
      cases hK : skipL l with
      | nil =>
        refine (parse_ok s w (by omega) T l hT hK).mono ?_
        rintro e w' ⟨⟨v, rfl, hv⟩, hb⟩
        exact ⟨⟨v, rfl, hv⟩, hb⟩
      | cons d r3 =>
        refine (parse_rest s w (by omega) T l hT d r3 hK).mono ?_
        rintro e w' ⟨rfl, hb⟩
        exact ⟨⟨_, rfl, hzero _⟩, hb⟩
end Go.Proofs.Ytfndldfnlncabaa
