/- The walk of terms.Parse itself. -/
import Derived.Test.YtfndldfnlncabaaParse
namespace Go.Proofs.Ytfndldfnlncabaa
set_option linter.unnecessarySimpa false
set_option linter.deprecated false
open Go.RowKit
set_option linter.unusedVariables false
set_option linter.unusedSimpArgs false

abbrev zT : Tm := .mk 0 emptyB [] []
/-- The world in which the reading begins. -/
def par0 (w : World) (s : ByteArray) : World := ((w.alloc (.cells #[.int .i64 0, .string emptyB, .slice none 0 0, .slice none 0 0] 25)).alloc (.cells #[.int .i64 0, .int .i64 0] 32)).alloc (.cells #[.string s, .int .i64 0] 66)
theorem par0_size (w : World) (s : ByteArray) : (par0 w s).heap.size = w.heap.size + 3 := by simp [par0]

/-- What holds of the three blocks while it goes on. -/
structure Par (w : World) (s : ByteArray) (q : Nat) (w1 : World) : Prop where
  rd : Rd w1 (w.heap.size + 2) s q
  below : Below w.heap.size w w1
  f : Blk w1 (w.heap.size + 1) #[.int .i64 0, .int .i64 0] 32
  t : ∃ v0 v1 v2 v3, Blk w1 w.heap.size #[v0, v1, v2, v3] 25
theorem Par.start (w : World) (s : ByteArray) : Par w s 0 (par0 w s) := by
  refine ⟨?_, ?_, ?_, _, _, _, _, ((Blk.new w #[.int .i64 0, .string emptyB, .slice none 0 0, .slice none 0 0] 25).alloc _).alloc _⟩
  · have := Blk.new ((w.alloc (.cells #[.int .i64 0, .string emptyB, .slice none 0 0, .slice none 0 0] 25)).alloc (.cells #[.int .i64 0, .int .i64 0] 32)) #[.string s, .int .i64 0] 66
    rw [show ((w.alloc (.cells #[.int .i64 0, .string emptyB, .slice none 0 0, .slice none 0 0] 25)).alloc (.cells #[.int .i64 0, .int .i64 0] 32)).heap.size = w.heap.size + 2 from by simp] at this
    exact this
  · exact (((Below.refl _ _).alloc (Nat.le_refl _) _).alloc (by simp) _).alloc (by simp; omega) _
  · have := Blk.new (w.alloc (.cells #[.int .i64 0, .string emptyB, .slice none 0 0, .slice none 0 0] 25)) #[.int .i64 0, .int .i64 0] 32
    rw [show (w.alloc (.cells #[.int .i64 0, .string emptyB, .slice none 0 0, .slice none 0 0] 25)).heap.size = w.heap.size + 1 from by simp] at this
    exact this.alloc _
theorem Par.step {w w1 w2 : World} {s : ByteArray} {q q2 : Nat} (h : Par w s q w1) (hr : Rd w2 (w.heap.size + 2) s q2) (hf : Fr (w.heap.size + 2) w1 w2) : Par w s q2 w2 := by
  obtain ⟨v0, v1, v2, v3, ht⟩ := h.t
  have h1 := ht.lt
  have h2 := h.f.lt
  exact ⟨hr, h.below.trans (hf.toBelow h.below.size (by omega)), (hf.block _ h2 (by omega)).trans h.f, v0, v1, v2, v3, (hf.block _ h1 (by omega)).trans ht⟩

set_option maxHeartbeats 2000000 in
set_option maxRecDepth 100000 in
theorem parse_long (s : ByteArray) (w : World) (hs : 65536 < s.size) (hz : s.size ≤ 9223372036854775807) :
    Calls Try.prog 16 #[.string s] w fun e w' => e = .returned (.tuple #[.agg #[.int .i64 0, .string emptyB, .slice none 0 0, .slice none 0 0], fv 0 2]) ∧ Below w.heap.size w w' := by
  have hi : (65536 : Int) < (s.size : Int) := by omega
  go_enter_defers Try.func16, Try.ntmps16
  go_wp2_with fail
  simp [bodyPostD, Leaves, settle, results, Try.results16, go_sem, fv]
  exact ⟨rfl, ((Below.refl _ _).alloc (Nat.le_refl _) _).alloc (by simp) _⟩

set_option maxHeartbeats 2000000 in
set_option maxRecDepth 100000 in
theorem parse_bad (s : ByteArray) (w : World) (hs : s.size ≤ 65536) (m : Nat) (c : Int) (hT : termL 200 s.data.toList = .bad m c) :
    Calls Try.prog 16 #[.string s] w fun e w' => e = .returned (.tuple #[.agg #[.int .i64 0, .string emptyB, .slice none 0 0, .slice none 0 0], fv ((s.size - m : Nat) : Int) c]) ∧ Below w.heap.size w w' := by
  have hmf : ∀ (fn : Fn) (first cap : Array Value) (w : World), (Instr.makeFunc fn first cap).run Try.prog w = .ok (.func fn first cap) w := fun _ _ _ _ => rfl
  have hi : ¬ (65536 : Int) < (s.size : Int) := by omega
  have HP := hide (Par.start w s)
  have HT := hide (term_any s hs 200 (by omega) (w.heap.size + 2) 0 (par0 w s) (by omega) HP.out.rd)
  rw [List.drop_zero, hT] at HT
  go_enter_defers Try.func16, Try.ntmps16
  go_wp2_with fail
  change Calls Try.prog 40 #[.pointer (some ⟨w.heap.size + 2, 0, none⟩), .int .i64 200] (par0 w s) _
  refine HT.out.mono ?_
  rintro e1 w1 ⟨rfl, hf1⟩
  have h0 := Par.start w s
  have h1 := par0_size w s
  obtain ⟨v0, v1, v2, v3, ht0⟩ := h0.t
  have ht := ht0.keep (ok := fun k => k ≠ w.heap.size + 2) (hf1.keep fun k hk => hk) (by show _ ≠ _; omega)
  have hf := h0.f.keep (ok := fun k => k ≠ w.heap.size + 2) (hf1.keep fun k hk => hk) (by show _ ≠ _; omega)
  have hbel : Below w.heap.size w w1 := h0.below.trans (hf1.toBelow (by omega) (by omega))
  unfold faultP
  go_wp2_with fail
  refine leaves_cons (f := 39) (args := #[.pointer (some ⟨w.heap.size, 0, none⟩), .pointer (some ⟨w.heap.size + 1, 0, none⟩)]) (by simp) (by simp [go_sem]) ?_
  refine (catch_fault w.heap.size _ _ [] w1 v0 v1 v2 v3 _ _ ht hf).mono ?_
  rintro e u' w2 ⟨rfl, rfl, hr0, hr1, hb⟩
  have f0 : w2.cell? ⟨w.heap.size, 0, none⟩ = some (.int .i64 0) := hr0.cell 0
  have f1 : w2.cell? ⟨w.heap.size, 1, none⟩ = some (.string emptyB) := hr0.cell 1
  have f2 : w2.cell? ⟨w.heap.size, 2, none⟩ = some (.slice none 0 0) := hr0.cell 2
  have f3 : w2.cell? ⟨w.heap.size, 3, none⟩ = some (.slice none 0 0) := hr0.cell 3
  have g0 : w2.cell? ⟨w.heap.size + 1, 0, none⟩ = some (.int .i64 ((s.size - m : Nat) : Int)) := hr1.cell 0
  have g1 : w2.cell? ⟨w.heap.size + 1, 1, none⟩ = some (.int .i64 c) := hr1.cell 1
  have hB := hbel.trans hb
  simp [Leaves, settle, results, Try.results16, go_sem, f0, f1, f2, f3, g0, g1, fv, hB]

/-- The term is stored, what is left looked at. -/
theorem par_lay {w w1 : World} {s : ByteArray} {q : Nat} {v0 v1 v2 v3 : Value} (h : Par w s q w1) : Par w s q (lay4 w1 w.heap.size v0 v1 v2 v3) ∧ Blk (lay4 w1 w.heap.size v0 v1 v2 v3) w.heap.size #[v0, v1, v2, v3] 25 := by
  obtain ⟨u0, u1, u2, u3, ht⟩ := h.t
  have hb := Blk.lay (v0 := v0) (v1 := v1) (v2 := v2) (v3 := v3) ht
  refine ⟨⟨?_, ?_, ?_, v0, v1, v2, v3, hb⟩, hb⟩
  · exact Rd.setS (Rd.setS (Rd.setS (Rd.setS h.rd (by omega)) (by omega)) (by omega)) (by omega)
  · exact Below.setS (Below.setS (Below.setS (Below.setS h.below (Nat.le_refl _)) (Nat.le_refl _)) (Nat.le_refl _)) (Nat.le_refl _)
  · exact Blk.setS (Blk.setS (Blk.setS (Blk.setS h.f (by omega)) (by omega)) (by omega)) (by omega)

theorem par_end {w w2 : World} {T : Tm} {v : Value} {v0 v1 v2 v3 u0 u1 x0 x1 x2 x3 y0 y1 : Value} (hb : Blk w2 w.heap.size #[v0, v1, v2, v3] 25) (hc : Blk w2 (w.heap.size + 1) #[u0, u1] 32) (hT : RTo (fun k => w.heap.size + 3 ≤ k) w2 T v) (hbel : Below w.heap.size w w2) :
    Blk ((((((w2.setCell ⟨w.heap.size, 0, none⟩ x0).setCell ⟨w.heap.size, 1, none⟩ x1).setCell ⟨w.heap.size, 2, none⟩ x2).setCell ⟨w.heap.size, 3, none⟩ x3).setCell ⟨w.heap.size + 1, 0, none⟩ y0).setCell ⟨w.heap.size + 1, 1, none⟩ y1) w.heap.size #[x0, x1, x2, x3] 25 ∧
    Blk ((((((w2.setCell ⟨w.heap.size, 0, none⟩ x0).setCell ⟨w.heap.size, 1, none⟩ x1).setCell ⟨w.heap.size, 2, none⟩ x2).setCell ⟨w.heap.size, 3, none⟩ x3).setCell ⟨w.heap.size + 1, 0, none⟩ y0).setCell ⟨w.heap.size + 1, 1, none⟩ y1) (w.heap.size + 1) #[y0, y1] 32 ∧
    Below w.heap.size w ((((((w2.setCell ⟨w.heap.size, 0, none⟩ x0).setCell ⟨w.heap.size, 1, none⟩ x1).setCell ⟨w.heap.size, 2, none⟩ x2).setCell ⟨w.heap.size, 3, none⟩ x3).setCell ⟨w.heap.size + 1, 0, none⟩ y0).setCell ⟨w.heap.size + 1, 1, none⟩ y1) ∧
    RTo (fun k => w.heap.size ≤ k) ((((((w2.setCell ⟨w.heap.size, 0, none⟩ x0).setCell ⟨w.heap.size, 1, none⟩ x1).setCell ⟨w.heap.size, 2, none⟩ x2).setCell ⟨w.heap.size, 3, none⟩ x3).setCell ⟨w.heap.size + 1, 0, none⟩ y0).setCell ⟨w.heap.size + 1, 1, none⟩ y1) T v := by
  have h := caught (x0 := x0) (x1 := x1) (x2 := x2) (x3 := x3) (y0 := y0) (y1 := y1) hb hc
  have ht : RTo (fun k => w.heap.size + 3 ≤ k) ((((((w2.setCell ⟨w.heap.size, 0, none⟩ x0).setCell ⟨w.heap.size, 1, none⟩ x1).setCell ⟨w.heap.size, 2, none⟩ x2).setCell ⟨w.heap.size, 3, none⟩ x3).setCell ⟨w.heap.size + 1, 0, none⟩ y0).setCell ⟨w.heap.size + 1, 1, none⟩ y1) T v := by
    refine RTo.keep (Keep.setS (Keep.setS (Keep.setS (Keep.setS (Keep.setS (Keep.setS (Keep.refl _ _) ?_) ?_) ?_) ?_) ?_) ?_) hT <;> omega
  unfold Go.Proofs.Ytfndldfnlncabaa.lay2 lay4 at h
  generalize ((((((w2.setCell ⟨w.heap.size, 0, none⟩ x0).setCell ⟨w.heap.size, 1, none⟩ x1).setCell ⟨w.heap.size, 2, none⟩ x2).setCell ⟨w.heap.size, 3, none⟩ x3).setCell ⟨w.heap.size + 1, 0, none⟩ y0).setCell ⟨w.heap.size + 1, 1, none⟩ y1) = W at h ht ⊢
  exact ⟨h.1, h.2.1, hbel.trans h.2.2, RTo.weak (fun k hk => by omega) ht⟩

set_option maxHeartbeats 2000000 in
set_option maxRecDepth 100000 in
theorem parse_ok (s : ByteArray) (w : World) (hs : s.size ≤ 65536) (T : Tm) (l : List UInt8) (hT : termL 200 s.data.toList = .ok T l) (hK : skipL l = []) :
    Calls Try.prog 16 #[.string s] w fun e w' => (∃ v, e = .returned (.tuple #[v, fv 0 0]) ∧ RTo (fun k => w.heap.size ≤ k) w' T v) ∧ Below w.heap.size w w' := by
  have hmf : ∀ (fn : Fn) (first cap : Array Value) (w : World), (Instr.makeFunc fn first cap).run Try.prog w = .ok (.func fn first cap) w := fun _ _ _ _ => rfl
  have hi : ¬ (65536 : Int) < (s.size : Int) := by omega
  have HP := hide (Par.start w s)
  have HT := hide (term_any s hs 200 (by omega) (w.heap.size + 2) 0 (par0 w s) (by omega) HP.out.rd)
  have hlen : l.length ≤ s.size := by have := (termL_tail 200 _ _ _ hT).1.length_le; rw [size_len] at this; exact this
  have hdr : s.data.toList.drop (s.size - l.length) = l := by have := drop_suffix (termL_tail 200 _ _ _ hT).1; rw [size_len] at this; exact this
  rw [List.drop_zero, hT] at HT
  go_enter_defers Try.func16, Try.ntmps16
  go_wp2_with fail
  change Calls Try.prog 40 #[.pointer (some ⟨w.heap.size + 2, 0, none⟩), .int .i64 200] (par0 w s) _
  refine HT.out.mono ?_
  rintro e1 w1 ⟨⟨v, rfl, hv, hr1⟩, hf1⟩
  obtain ⟨a1, k1, a2, k2, rfl, hkk, hcc, _, hrr⟩ := hv.open
  have HX := hide hv
  have HP1 := hide (HP.out.step hr1 hf1)
  have HS := hide (par0_size w s)
  clear hv hkk hcc hrr hr1 hf1
  obtain ⟨u0, u1, u2, u3, ht⟩ := HP1.out.t
  have d0 := ht.cell 0
  have d1 := ht.cell 1
  have d2 := ht.cell 2
  have d3 := ht.cell 3
  have dz0 := ht.free 0
  have dz1 := ht.free 1
  have dz2 := ht.free 2
  have dz3 := ht.free 3
  have hsz := ht.lt
  clear ht
  have HL := hide (par_lay (v0 := .int .i64 T.kind) (v1 := .string T.cons) (v2 := .slice a1 T.text.length k1) (v3 := .slice a2 T.kids.length k2) HP1.out)
  have HK := hide (skip_any (w.heap.size + 2) s (s.size - l.length) _ hs (by omega) HL.out.1.rd)
  rw [hdr, hK] at HK
  simp only [List.isEmpty_nil, Bool.not_true, List.length_nil, Nat.sub_zero] at HK
  have HT2 := hide (show RTo (fun k => w.heap.size + 3 ≤ k) (lay4 w1 w.heap.size (.int .i64 T.kind) (.string T.cons) (.slice a1 T.text.length k1) (.slice a2 T.kids.length k2)) T (.agg #[.int .i64 T.kind, .string T.cons, .slice a1 T.text.length k1, .slice a2 T.kids.length k2]) from by
    have h := HS.out
    refine RTo.weak (fun k hk => by omega) (RTo.keep (Keep.setS (Keep.setS (Keep.setS (Keep.setS (Keep.refl _ _) ?_) ?_) ?_) ?_) HX.out) <;> omega)
  go_wp2_with fail
  change Calls Try.prog 41 #[.pointer (some ⟨w.heap.size + 2, 0, none⟩)] (lay4 w1 w.heap.size (.int .i64 T.kind) (.string T.cons) (.slice a1 T.text.length k1) (.slice a2 T.kids.length k2)) _
  refine HK.out.mono ?_
  rintro e2 w2 ⟨rfl, hr2, hf2⟩
  have HP2 := hide (HL.out.1.step hr2 hf2)
  have ht2 := HL.out.2.keep (ok := fun k => k ≠ w.heap.size + 2) (hf2.keep fun k hk => hk) (by show _ ≠ _; omega)
  have HT3 := hide (RTo.keep (ok := fun k => w.heap.size + 3 ≤ k) (hf2.keep fun k hk => by omega) HT2.out)
  have hf := HP2.out.f
  have HB := hide ht2
  have HF := hide hf
  clear hr2 hf2 d0 d1 d2 d3 dz0 dz1 dz2 dz3 hsz
  have d0 := ht2.cell 0
  have d1 := ht2.cell 1
  have d2 := ht2.cell 2
  have d3 := ht2.cell 3
  have dz0 := ht2.free 0
  have dz1 := ht2.free 1
  have dz2 := ht2.free 2
  have dz3 := ht2.free 3
  have e0 := hf.cell 0
  have e1 := hf.cell 1
  have ez0 := hf.free 0
  have ez1 := hf.free 1
  have hsz := ht2.lt
  have hsz2 := hf.lt
  clear ht2 hf
  go_wp2_with fail
  have hC := par_end (x0 := .int .i64 T.kind) (x1 := .string T.cons) (x2 := .slice a1 T.text.length k1) (x3 := .slice a2 T.kids.length k2) (y0 := .int .i64 0) (y1 := .int .i64 0) HB.out HF.out HT3.out HP2.out.below
  refine leaves_cons (f := 39) (args := #[.pointer (some ⟨w.heap.size, 0, none⟩), .pointer (some ⟨w.heap.size + 1, 0, none⟩)]) (by simp) (by simp [go_sem]) ?_
  refine (catch_idle ⟨w.heap.size, 0, none⟩ ⟨w.heap.size + 1, 0, none⟩ _).mono ?_
  rintro e u' w4 ⟨rfl, rfl, rfl⟩
  generalize ((((((w2.setCell ⟨w.heap.size, 0, none⟩ (.int .i64 T.kind)).setCell ⟨w.heap.size, 1, none⟩ (.string T.cons)).setCell ⟨w.heap.size, 2, none⟩ (.slice a1 T.text.length k1)).setCell ⟨w.heap.size, 3, none⟩ (.slice a2 T.kids.length k2)).setCell ⟨w.heap.size + 1, 0, none⟩ (.int .i64 0)).setCell ⟨w.heap.size + 1, 1, none⟩ (.int .i64 0)) = W at hC ⊢
  have f0 : W.cell? ⟨w.heap.size, 0, none⟩ = some (.int .i64 T.kind) := hC.1.cell 0
  have f1 : W.cell? ⟨w.heap.size, 1, none⟩ = some (.string T.cons) := hC.1.cell 1
  have f2 : W.cell? ⟨w.heap.size, 2, none⟩ = some (.slice a1 T.text.length k1) := hC.1.cell 2
  have f3 : W.cell? ⟨w.heap.size, 3, none⟩ = some (.slice a2 T.kids.length k2) := hC.1.cell 3
  have g0 : W.cell? ⟨w.heap.size + 1, 0, none⟩ = some (.int .i64 0) := hC.2.1.cell 0
  have g1 : W.cell? ⟨w.heap.size + 1, 1, none⟩ = some (.int .i64 0) := hC.2.1.cell 1
  simp [Leaves, settle, results, Try.results16, go_sem, f0, f1, f2, f3, g0, g1, fv]
  exact ⟨hC.2.2.2, hC.2.2.1⟩
end Go.Proofs.Ytfndldfnlncabaa
