/- Equality of sets, of symbols, of follows, of rejects. The walk of rightSym. -/
import Derived.Test.YtalicfpcmcbdbaaZMapF
import Derived.Test.YtalicfpcmcbdbaaZNames
set_option linter.unusedVariables false
set_option linter.unusedSimpArgs false
set_option linter.unnecessarySimpa false
set_option linter.deprecated false
namespace Go.Proofs.Ytalicfpcmcbdbaa
open Go.RowKit

theorem cells46 : Try.prog.cellsOf 46 = 4 := by kernel_rfl
theorem cells44 : Try.prog.cellsOf 44 = 1 := by kernel_rfl
theorem cells3 : Try.prog.cellsOf 3 = 1 := by kernel_rfl
theorem cells9 : Try.prog.cellsOf 9 = 1 := by kernel_rfl
theorem cells61 : Try.prog.cellsOf 61 = 8 := by kernel_rfl
theorem cells48 : Try.prog.cellsOf 48 = 5 := by kernel_rfl
theorem cells50 : Try.prog.cellsOf 50 = 2 := by kernel_rfl
theorem key46 : Try.prog.keyTypeAt 2 46 = true := by kernel_rfl
theorem key61 : Try.prog.keyTypeAt 3 61 = true := by kernel_rfl
theorem key48 : Try.prog.keyTypeAt 3 48 = true := by kernel_rfl
theorem key50 : Try.prog.keyTypeAt 2 50 = true := by kernel_rfl
theorem und44 : Try.prog.underlying 44 = some (.int .u64) := by kernel_rfl
def stL (s : St) : List Lit := [.int .u64 (s.w0 : Int), .int .u64 (s.w1 : Int), .int .u64 (s.w2 : Int), .int .u64 (s.w3 : Int)]
theorem stL_inj {a b : St} (h : stL a = stL b) : a = b := by
  obtain ⟨a0, a1, a2, a3⟩ := a
  obtain ⟨b0, b1, b2, b3⟩ := b
  simp only [stL, List.cons.injEq, Lit.int.injEq, true_and, and_true, Int.ofNat_inj] at h
  obtain ⟨h0, h1, h2, h3⟩ := h
  rw [h0, h1, h2, h3]
theorem lit_u64 (n : Nat) (hn : n < 18446744073709551616) (d : Nat) : Try.prog.keyLits (d + 1) 44 [.int .u64 (n : Int)] = some [.int .u64 (n : Int)] := by
  have wf : (Lit.int .u64 (n : Int)).wf = true := by
    simp only [Lit.wf, Bool.and_eq_true, decide_eq_true_eq]
    exact ⟨by show (0 : Int) ≤ n; omega, by show (n : Int) ≤ 18446744073709551615; omega⟩
  rw [Program.keyLits, if_pos ⟨rfl, wf⟩]
  exact und44
theorem lit_i64 (n : Int) (hn : i64 n) (d : Nat) : Try.prog.keyLits (d + 1) 3 [.int .i64 n] = some [.int .i64 n] := by
  have wf : (Lit.int .i64 n).wf = true := by
    simp only [Lit.wf, Bool.and_eq_true, decide_eq_true_eq]
    exact hn
  rw [Program.keyLits, if_pos ⟨rfl, wf⟩]
  exact Try.underlying3
theorem lit_str (s : ByteArray) (hs : short s) (d : Nat) : Try.prog.keyLits (d + 1) 9 [.string s] = some [.string s.data.toList] := by
  rw [Program.keyLits, if_pos (by unfold short at hs; unfold maxLen; omega)]
  exact Try.underlying9
theorem lit_set (s : St) (h : s.ok) (d : Nat) : Try.prog.keyLits (d + 1 + 1) 46 [.int .u64 (s.w0 : Int), .int .u64 (s.w1 : Int), .int .u64 (s.w2 : Int), .int .u64 (s.w3 : Int)] = some (stL s) := by
  obtain ⟨h0, h1, h2, h3⟩ := h
  rw [Program.keyLits]
  case heq => exact Try.underlying46
  simp only [cells46, cells44]
  rw [if_pos (by rfl), show List.range 4 = [0, 1, 2, 3] from rfl]
  simp [lit_u64 _ h0, lit_u64 _ h1, lit_u64 _ h2, lit_u64 _ h3, stL]
theorem data_inj {s t : ByteArray} (h : s.data.toList = t.data.toList) : s = t := by
  obtain ⟨⟨s⟩⟩ := s
  obtain ⟨⟨t⟩⟩ := t
  simpa using h
theorem equal_of {t : TypeId} {m : Nat} (hm : m ≤ 10000) (hk : Try.prog.keyTypeAt m t = true) {x y : Array Value} {dx dy : Nat} {lx ly : List Lit} (w : World) (fx : (Value.agg x).formed Try.prog t = true) (fy : (Value.agg y).formed Try.prog t = true) (hx : Try.prog.keyLits dx t x.toList = some lx) (hy : Try.prog.keyLits dy t y.toList = some ly) {p : Prop} [Decidable p] (hp : lx = ly ↔ p) :
    (Op.equal t (.agg x) (.agg y)).run Try.prog w = .ok (decide p) w := by
  obtain ⟨r, hr, hiff⟩ := run_equalIn_deep (P := Try.prog) (10000 - m) m t hk w dx dy (.agg x) (.agg y) lx ly fx fy hx hy
  rw [show 10000 - m + m = 10000 by omega] at hr
  have e : r = decide p := by rw [Bool.eq_iff_iff, hiff, hp, decide_eq_true_eq]
  rw [← e]
  exact hr
theorem run_eql {t : TypeId} {x y : Array Value} {b : Bool} {w : World} (h : (Op.equal t (.agg x) (.agg y)).run Try.prog w = .ok b w) : (binOp .eql t (.agg x) (.agg y)).run Try.prog w = .ok (.bool b) w := by
  simp only [binOp, Sem.run_bind, h, Result.andThen_ok, Sem.run_pure]
theorem run_neq {t : TypeId} {x y : Array Value} {b : Bool} {w : World} (h : (Op.equal t (.agg x) (.agg y)).run Try.prog w = .ok b w) : (binOp .neq t (.agg x) (.agg y)).run Try.prog w = .ok (.bool (!b)) w := by
  simp only [binOp, Sem.run_bind, h, Result.andThen_ok, Sem.run_pure]
theorem equal_set (a b : St) (ha : a.ok) (hb : b.ok) (w : World) : (Op.equal 46 (.agg #[.int .u64 (a.w0 : Int), .int .u64 (a.w1 : Int), .int .u64 (a.w2 : Int), .int .u64 (a.w3 : Int)]) (.agg #[.int .u64 (b.w0 : Int), .int .u64 (b.w1 : Int), .int .u64 (b.w2 : Int), .int .u64 (b.w3 : Int)])).run Try.prog w = .ok (decide (a = b)) w := by
  have hf : ∀ s : St, (Value.agg #[.int .u64 (s.w0 : Int), .int .u64 (s.w1 : Int), .int .u64 (s.w2 : Int), .int .u64 (s.w3 : Int)]).formed Try.prog 46 = true := by
    intro s
    simp only [Value.formed, Try.underlying46, cells46]
    rfl
  exact equal_of (m := 2) (by decide) key46 w (hf a) (hf b) (lit_set a ha 0) (lit_set b hb 0) ⟨stL_inj, fun h => by rw [h]⟩
theorem neq_zero (a : St) (ha : a.ok) (w : World) : (binOp .neq 46 (.agg #[.int .u64 (a.w0 : Int), .int .u64 (a.w1 : Int), .int .u64 (a.w2 : Int), .int .u64 (a.w3 : Int)]) (.agg #[.int .u64 0, .int .u64 0, .int .u64 0, .int .u64 0])).run Try.prog w = .ok (.bool (!decide (a = zS))) w :=
  run_neq (equal_set a zS ha zS_ok w)
theorem eql_zero (a : St) (ha : a.ok) (w : World) : (binOp .eql 46 (.agg #[.int .u64 (a.w0 : Int), .int .u64 (a.w1 : Int), .int .u64 (a.w2 : Int), .int .u64 (a.w3 : Int)]) (.agg #[.int .u64 0, .int .u64 0, .int .u64 0, .int .u64 0])).run Try.prog w = .ok (.bool (decide (a = zS))) w :=
  run_eql (equal_set a zS ha zS_ok w)
end Go.Proofs.Ytalicfpcmcbdbaa

set_option linter.unusedVariables false
set_option linter.unusedSimpArgs false
set_option linter.unnecessarySimpa false
set_option linter.deprecated false
namespace Go.Proofs.Ytalicfpcmcbdbaa
open Go.RowKit

def setZ (s : St) : Bool := decide (s = zS)
def rightSyB (x : Sy) : Bool :=
  if x.kind = 1 then decide (x.text.size ≤ 32) && setZ x.set && emp x.name && emp x.sep
  else if x.kind = 2 then emp x.text && emp x.name && emp x.sep
  else if x.kind = 3 then emp x.text && setZ x.set && namedB x.name false && emp x.sep
  else if x.kind = 4 then emp x.text && emp x.sep && (emp x.name || setZ x.set && namedB x.name false)
  else if x.kind = 5 ∨ x.kind = 6 then (if emp x.name = true then emp x.text && emp x.sep else emp x.text && setZ x.set && namedB x.name false && decide (x.sep.size ≤ 32))
  else false
theorem load_set (W : World) : True := trivial
set_option maxHeartbeats 4000000 in
set_option maxRecDepth 100000 in
theorem sy1 (t : ByteArray) (s : St) (n p : ByteArray) (w : World) (hs : s.ok) (hn : short n) : Calls Try.prog 101 #[.agg #[.int .i64 1, .string t, .int .u64 (s.w0 : Int), .int .u64 (s.w1 : Int), .int .u64 (s.w2 : Int), .int .u64 (s.w3 : Int), .string n, .string p]] w fun e w' => e = .returned (.bool (rightSyB ⟨1, t, s, n, p⟩)) ∧ Below w.heap.size w w' := by
  have HB := hide ((Below.refl w.heap.size w).alloc (Nat.le_refl _) (.cells #[.int .i64 1, .string t, .int .u64 (s.w0 : Int), .int .u64 (s.w1 : Int), .int .u64 (s.w2 : Int), .int .u64 (s.w3 : Int), .string n, .string p] 61))
  have HBL := hide (Blk.new w #[.int .i64 1, .string t, .int .u64 (s.w0 : Int), .int .u64 (s.w1 : Int), .int .u64 (s.w2 : Int), .int .u64 (s.w3 : Int), .string n, .string p] 61)
  have HNn := hide (fun W => named_any n false W hn)
  have HZs := hide (fun W => neq_zero s hs W)
  change Hid (∀ W, (binOp .neq 46 _ _).run Try.prog W = .ok (.bool (!setZ s)) W) at HZs
  have hqs0 := HZs.out
  by_cases hst : t.size ≤ 32
  · have hit : (t.size : Int) ≤ 32 := by omega
    have Hst := hide hst
    clear hst
    cases hzs : setZ s
    · rw [hzs] at HZs
      have hqs := HZs.out
      simp only [Bool.not_true, Bool.not_false] at hqs
      have Hzs := hide hzs
      clear hzs hqs0
      have HR := hide (show rightSyB ⟨1, t, s, n, p⟩ = false by unfold rightSyB; simp [Hst.out, Hzs.out])
      go_enter Try.func101, Try.ntmps101
      go_wp2_with (go_at_call 84; refine (HNn.out _).mono ?_; rintro e w' ⟨rfl, hb⟩; have hk := HBL.out.below hb; have g0 := hk.cell 0; have g1 := hk.cell 1; have g6 := hk.cell 6; have g7 := hk.cell 7; clear hk)
      go_ret
      first | exact ⟨by rw [HR.out]; rfl, HB.out⟩ | exact ⟨by rw [HR.out]; rfl, below_next HB.out hb⟩
    · rw [hzs] at HZs
      have hqs := HZs.out
      simp only [Bool.not_true, Bool.not_false] at hqs
      have Hzs := hide hzs
      clear hzs hqs0
      rcases emp_or n with ⟨bn, zn, yn, vn, xn⟩ | ⟨bn, zn, yn, vn, xn⟩
      · skip
        rcases emp_or p with ⟨bp, zp, yp, vp, xp⟩ | ⟨bp, zp, yp, vp, xp⟩
        · skip
          have HR := hide (show rightSyB ⟨1, t, s, n, p⟩ = true by unfold rightSyB; simp [Hst.out, Hzs.out, zn.out, zp.out])
          go_enter Try.func101, Try.ntmps101
          go_wp2_with (go_at_call 84; refine (HNn.out _).mono ?_; rintro e w' ⟨rfl, hb⟩; have hk := HBL.out.below hb; have g0 := hk.cell 0; have g1 := hk.cell 1; have g6 := hk.cell 6; have g7 := hk.cell 7; clear hk)
          go_ret
          first | exact ⟨by rw [HR.out]; rfl, HB.out⟩ | exact ⟨by rw [HR.out]; rfl, below_next HB.out hb⟩
        · skip
          have HR := hide (show rightSyB ⟨1, t, s, n, p⟩ = false by unfold rightSyB; simp [Hst.out, Hzs.out, zn.out, zp.out])
          go_enter Try.func101, Try.ntmps101
          go_wp2_with (go_at_call 84; refine (HNn.out _).mono ?_; rintro e w' ⟨rfl, hb⟩; have hk := HBL.out.below hb; have g0 := hk.cell 0; have g1 := hk.cell 1; have g6 := hk.cell 6; have g7 := hk.cell 7; clear hk)
          go_ret
          first | exact ⟨by rw [HR.out]; rfl, HB.out⟩ | exact ⟨by rw [HR.out]; rfl, below_next HB.out hb⟩
      · skip
        have HR := hide (show rightSyB ⟨1, t, s, n, p⟩ = false by unfold rightSyB; simp [Hst.out, Hzs.out, zn.out])
        go_enter Try.func101, Try.ntmps101
        go_wp2_with (go_at_call 84; refine (HNn.out _).mono ?_; rintro e w' ⟨rfl, hb⟩; have hk := HBL.out.below hb; have g0 := hk.cell 0; have g1 := hk.cell 1; have g6 := hk.cell 6; have g7 := hk.cell 7; clear hk)
        go_ret
        first | exact ⟨by rw [HR.out]; rfl, HB.out⟩ | exact ⟨by rw [HR.out]; rfl, below_next HB.out hb⟩
  · have hit : ¬ (t.size : Int) ≤ 32 := by omega
    have hjt : decide ((t.size : Int) ≤ 32) = false := decide_eq_false hit
    have Hst := hide hst
    clear hst
    have HR := hide (show rightSyB ⟨1, t, s, n, p⟩ = false by unfold rightSyB; simp [Hst.out])
    go_enter Try.func101, Try.ntmps101
    go_wp2_with (go_at_call 84; refine (HNn.out _).mono ?_; rintro e w' ⟨rfl, hb⟩; have hk := HBL.out.below hb; have g0 := hk.cell 0; have g1 := hk.cell 1; have g6 := hk.cell 6; have g7 := hk.cell 7; clear hk)
    go_ret
    first | exact ⟨by rw [HR.out]; rfl, HB.out⟩ | exact ⟨by rw [HR.out]; rfl, below_next HB.out hb⟩
set_option maxHeartbeats 4000000 in
set_option maxRecDepth 100000 in
theorem sy2 (t : ByteArray) (s : St) (n p : ByteArray) (w : World) (hs : s.ok) (hn : short n) : Calls Try.prog 101 #[.agg #[.int .i64 2, .string t, .int .u64 (s.w0 : Int), .int .u64 (s.w1 : Int), .int .u64 (s.w2 : Int), .int .u64 (s.w3 : Int), .string n, .string p]] w fun e w' => e = .returned (.bool (rightSyB ⟨2, t, s, n, p⟩)) ∧ Below w.heap.size w w' := by
  have HB := hide ((Below.refl w.heap.size w).alloc (Nat.le_refl _) (.cells #[.int .i64 2, .string t, .int .u64 (s.w0 : Int), .int .u64 (s.w1 : Int), .int .u64 (s.w2 : Int), .int .u64 (s.w3 : Int), .string n, .string p] 61))
  have HBL := hide (Blk.new w #[.int .i64 2, .string t, .int .u64 (s.w0 : Int), .int .u64 (s.w1 : Int), .int .u64 (s.w2 : Int), .int .u64 (s.w3 : Int), .string n, .string p] 61)
  have HNn := hide (fun W => named_any n false W hn)
  have HZs := hide (fun W => neq_zero s hs W)
  change Hid (∀ W, (binOp .neq 46 _ _).run Try.prog W = .ok (.bool (!setZ s)) W) at HZs
  have hqs0 := HZs.out
  rcases emp_or t with ⟨bt, zt, yt, vt, xt⟩ | ⟨bt, zt, yt, vt, xt⟩
  · skip
    rcases emp_or n with ⟨bn, zn, yn, vn, xn⟩ | ⟨bn, zn, yn, vn, xn⟩
    · skip
      rcases emp_or p with ⟨bp, zp, yp, vp, xp⟩ | ⟨bp, zp, yp, vp, xp⟩
      · skip
        have HR := hide (show rightSyB ⟨2, t, s, n, p⟩ = true by unfold rightSyB; simp [zt.out, zn.out, zp.out])
        go_enter Try.func101, Try.ntmps101
        go_wp2_with (go_at_call 84; refine (HNn.out _).mono ?_; rintro e w' ⟨rfl, hb⟩; have hk := HBL.out.below hb; have g0 := hk.cell 0; have g1 := hk.cell 1; have g6 := hk.cell 6; have g7 := hk.cell 7; clear hk)
        go_ret
        first | exact ⟨by rw [HR.out]; rfl, HB.out⟩ | exact ⟨by rw [HR.out]; rfl, below_next HB.out hb⟩
      · skip
        have HR := hide (show rightSyB ⟨2, t, s, n, p⟩ = false by unfold rightSyB; simp [zt.out, zn.out, zp.out])
        go_enter Try.func101, Try.ntmps101
        go_wp2_with (go_at_call 84; refine (HNn.out _).mono ?_; rintro e w' ⟨rfl, hb⟩; have hk := HBL.out.below hb; have g0 := hk.cell 0; have g1 := hk.cell 1; have g6 := hk.cell 6; have g7 := hk.cell 7; clear hk)
        go_ret
        first | exact ⟨by rw [HR.out]; rfl, HB.out⟩ | exact ⟨by rw [HR.out]; rfl, below_next HB.out hb⟩
    · skip
      have HR := hide (show rightSyB ⟨2, t, s, n, p⟩ = false by unfold rightSyB; simp [zt.out, zn.out])
      go_enter Try.func101, Try.ntmps101
      go_wp2_with (go_at_call 84; refine (HNn.out _).mono ?_; rintro e w' ⟨rfl, hb⟩; have hk := HBL.out.below hb; have g0 := hk.cell 0; have g1 := hk.cell 1; have g6 := hk.cell 6; have g7 := hk.cell 7; clear hk)
      go_ret
      first | exact ⟨by rw [HR.out]; rfl, HB.out⟩ | exact ⟨by rw [HR.out]; rfl, below_next HB.out hb⟩
  · skip
    have HR := hide (show rightSyB ⟨2, t, s, n, p⟩ = false by unfold rightSyB; simp [zt.out])
    go_enter Try.func101, Try.ntmps101
    go_wp2_with (go_at_call 84; refine (HNn.out _).mono ?_; rintro e w' ⟨rfl, hb⟩; have hk := HBL.out.below hb; have g0 := hk.cell 0; have g1 := hk.cell 1; have g6 := hk.cell 6; have g7 := hk.cell 7; clear hk)
    go_ret
    first | exact ⟨by rw [HR.out]; rfl, HB.out⟩ | exact ⟨by rw [HR.out]; rfl, below_next HB.out hb⟩
set_option maxHeartbeats 4000000 in
set_option maxRecDepth 100000 in
theorem sy3 (t : ByteArray) (s : St) (n p : ByteArray) (w : World) (hs : s.ok) (hn : short n) : Calls Try.prog 101 #[.agg #[.int .i64 3, .string t, .int .u64 (s.w0 : Int), .int .u64 (s.w1 : Int), .int .u64 (s.w2 : Int), .int .u64 (s.w3 : Int), .string n, .string p]] w fun e w' => e = .returned (.bool (rightSyB ⟨3, t, s, n, p⟩)) ∧ Below w.heap.size w w' := by
  have HB := hide ((Below.refl w.heap.size w).alloc (Nat.le_refl _) (.cells #[.int .i64 3, .string t, .int .u64 (s.w0 : Int), .int .u64 (s.w1 : Int), .int .u64 (s.w2 : Int), .int .u64 (s.w3 : Int), .string n, .string p] 61))
  have HBL := hide (Blk.new w #[.int .i64 3, .string t, .int .u64 (s.w0 : Int), .int .u64 (s.w1 : Int), .int .u64 (s.w2 : Int), .int .u64 (s.w3 : Int), .string n, .string p] 61)
  have HNn := hide (fun W => named_any n false W hn)
  have HZs := hide (fun W => neq_zero s hs W)
  change Hid (∀ W, (binOp .neq 46 _ _).run Try.prog W = .ok (.bool (!setZ s)) W) at HZs
  have hqs0 := HZs.out
  rcases emp_or t with ⟨bt, zt, yt, vt, xt⟩ | ⟨bt, zt, yt, vt, xt⟩
  · skip
    cases hzs : setZ s
    · rw [hzs] at HZs
      have hqs := HZs.out
      simp only [Bool.not_true, Bool.not_false] at hqs
      have Hzs := hide hzs
      clear hzs hqs0
      have HR := hide (show rightSyB ⟨3, t, s, n, p⟩ = false by unfold rightSyB; simp [zt.out, Hzs.out])
      go_enter Try.func101, Try.ntmps101
      go_wp2_with (go_at_call 84; refine (HNn.out _).mono ?_; rintro e w' ⟨rfl, hb⟩; have hk := HBL.out.below hb; have g0 := hk.cell 0; have g1 := hk.cell 1; have g6 := hk.cell 6; have g7 := hk.cell 7; clear hk)
      go_ret
      first | exact ⟨by rw [HR.out]; rfl, HB.out⟩ | exact ⟨by rw [HR.out]; rfl, below_next HB.out hb⟩
    · rw [hzs] at HZs
      have hqs := HZs.out
      simp only [Bool.not_true, Bool.not_false] at hqs
      have Hzs := hide hzs
      clear hzs hqs0
      cases hnn : namedB n false
      · rw [hnn] at HNn
        have Hnn := hide hnn
        clear hnn
        have HR := hide (show rightSyB ⟨3, t, s, n, p⟩ = false by unfold rightSyB; simp [zt.out, Hzs.out, Hnn.out])
        go_enter Try.func101, Try.ntmps101
        go_wp2_with (go_at_call 84; refine (HNn.out _).mono ?_; rintro e w' ⟨rfl, hb⟩; have hk := HBL.out.below hb; have g0 := hk.cell 0; have g1 := hk.cell 1; have g6 := hk.cell 6; have g7 := hk.cell 7; clear hk)
        go_ret
        first | exact ⟨by rw [HR.out]; rfl, HB.out⟩ | exact ⟨by rw [HR.out]; rfl, below_next HB.out hb⟩
      · rw [hnn] at HNn
        have Hnn := hide hnn
        clear hnn
        rcases emp_or p with ⟨bp, zp, yp, vp, xp⟩ | ⟨bp, zp, yp, vp, xp⟩
        · skip
          have HR := hide (show rightSyB ⟨3, t, s, n, p⟩ = true by unfold rightSyB; simp [zt.out, Hzs.out, Hnn.out, zp.out])
          go_enter Try.func101, Try.ntmps101
          go_wp2_with (go_at_call 84; refine (HNn.out _).mono ?_; rintro e w' ⟨rfl, hb⟩; have hk := HBL.out.below hb; have g0 := hk.cell 0; have g1 := hk.cell 1; have g6 := hk.cell 6; have g7 := hk.cell 7; clear hk)
          go_ret
          first | exact ⟨by rw [HR.out]; rfl, HB.out⟩ | exact ⟨by rw [HR.out]; rfl, below_next HB.out hb⟩
        · skip
          have HR := hide (show rightSyB ⟨3, t, s, n, p⟩ = false by unfold rightSyB; simp [zt.out, Hzs.out, Hnn.out, zp.out])
          go_enter Try.func101, Try.ntmps101
          go_wp2_with (go_at_call 84; refine (HNn.out _).mono ?_; rintro e w' ⟨rfl, hb⟩; have hk := HBL.out.below hb; have g0 := hk.cell 0; have g1 := hk.cell 1; have g6 := hk.cell 6; have g7 := hk.cell 7; clear hk)
          go_ret
          first | exact ⟨by rw [HR.out]; rfl, HB.out⟩ | exact ⟨by rw [HR.out]; rfl, below_next HB.out hb⟩
  · skip
    have HR := hide (show rightSyB ⟨3, t, s, n, p⟩ = false by unfold rightSyB; simp [zt.out])
    go_enter Try.func101, Try.ntmps101
    go_wp2_with (go_at_call 84; refine (HNn.out _).mono ?_; rintro e w' ⟨rfl, hb⟩; have hk := HBL.out.below hb; have g0 := hk.cell 0; have g1 := hk.cell 1; have g6 := hk.cell 6; have g7 := hk.cell 7; clear hk)
    go_ret
    first | exact ⟨by rw [HR.out]; rfl, HB.out⟩ | exact ⟨by rw [HR.out]; rfl, below_next HB.out hb⟩
set_option maxHeartbeats 4000000 in
set_option maxRecDepth 100000 in
theorem sy4 (t : ByteArray) (s : St) (n p : ByteArray) (w : World) (hs : s.ok) (hn : short n) : Calls Try.prog 101 #[.agg #[.int .i64 4, .string t, .int .u64 (s.w0 : Int), .int .u64 (s.w1 : Int), .int .u64 (s.w2 : Int), .int .u64 (s.w3 : Int), .string n, .string p]] w fun e w' => e = .returned (.bool (rightSyB ⟨4, t, s, n, p⟩)) ∧ Below w.heap.size w w' := by
  have HB := hide ((Below.refl w.heap.size w).alloc (Nat.le_refl _) (.cells #[.int .i64 4, .string t, .int .u64 (s.w0 : Int), .int .u64 (s.w1 : Int), .int .u64 (s.w2 : Int), .int .u64 (s.w3 : Int), .string n, .string p] 61))
  have HBL := hide (Blk.new w #[.int .i64 4, .string t, .int .u64 (s.w0 : Int), .int .u64 (s.w1 : Int), .int .u64 (s.w2 : Int), .int .u64 (s.w3 : Int), .string n, .string p] 61)
  have HNn := hide (fun W => named_any n false W hn)
  have HZs := hide (fun W => neq_zero s hs W)
  change Hid (∀ W, (binOp .neq 46 _ _).run Try.prog W = .ok (.bool (!setZ s)) W) at HZs
  have hqs0 := HZs.out
  rcases emp_or t with ⟨bt, zt, yt, vt, xt⟩ | ⟨bt, zt, yt, vt, xt⟩
  · skip
    rcases emp_or p with ⟨bp, zp, yp, vp, xp⟩ | ⟨bp, zp, yp, vp, xp⟩
    · skip
      rcases emp_or n with ⟨bn, zn, yn, vn, xn⟩ | ⟨bn, zn, yn, vn, xn⟩
      · skip
        have HR := hide (show rightSyB ⟨4, t, s, n, p⟩ = true by unfold rightSyB; simp [zt.out, zp.out, zn.out])
        go_enter Try.func101, Try.ntmps101
        go_wp2_with (go_at_call 84; refine (HNn.out _).mono ?_; rintro e w' ⟨rfl, hb⟩; have hk := HBL.out.below hb; have g0 := hk.cell 0; have g1 := hk.cell 1; have g6 := hk.cell 6; have g7 := hk.cell 7; clear hk)
        go_ret
        first | exact ⟨by rw [HR.out]; rfl, HB.out⟩ | exact ⟨by rw [HR.out]; rfl, below_next HB.out hb⟩
      · skip
        cases hzs : setZ s
        · rw [hzs] at HZs
          have hqs := HZs.out
          simp only [Bool.not_true, Bool.not_false] at hqs
          have Hzs := hide hzs
          clear hzs hqs0
          have HR := hide (show rightSyB ⟨4, t, s, n, p⟩ = false by unfold rightSyB; simp [zt.out, zp.out, zn.out, Hzs.out])
          go_enter Try.func101, Try.ntmps101
          go_wp2_with (go_at_call 84; refine (HNn.out _).mono ?_; rintro e w' ⟨rfl, hb⟩; have hk := HBL.out.below hb; have g0 := hk.cell 0; have g1 := hk.cell 1; have g6 := hk.cell 6; have g7 := hk.cell 7; clear hk)
          go_ret
          first | exact ⟨by rw [HR.out]; rfl, HB.out⟩ | exact ⟨by rw [HR.out]; rfl, below_next HB.out hb⟩
        · rw [hzs] at HZs
          have hqs := HZs.out
          simp only [Bool.not_true, Bool.not_false] at hqs
          have Hzs := hide hzs
          clear hzs hqs0
          cases hnn : namedB n false
          · rw [hnn] at HNn
            have Hnn := hide hnn
            clear hnn
            have HR := hide (show rightSyB ⟨4, t, s, n, p⟩ = false by unfold rightSyB; simp [zt.out, zp.out, zn.out, Hzs.out, Hnn.out])
            go_enter Try.func101, Try.ntmps101
            go_wp2_with (go_at_call 84; refine (HNn.out _).mono ?_; rintro e w' ⟨rfl, hb⟩; have hk := HBL.out.below hb; have g0 := hk.cell 0; have g1 := hk.cell 1; have g6 := hk.cell 6; have g7 := hk.cell 7; clear hk)
            go_ret
            first | exact ⟨by rw [HR.out]; rfl, HB.out⟩ | exact ⟨by rw [HR.out]; rfl, below_next HB.out hb⟩
          · rw [hnn] at HNn
            have Hnn := hide hnn
            clear hnn
            have HR := hide (show rightSyB ⟨4, t, s, n, p⟩ = true by unfold rightSyB; simp [zt.out, zp.out, zn.out, Hzs.out, Hnn.out])
            go_enter Try.func101, Try.ntmps101
            go_wp2_with (go_at_call 84; refine (HNn.out _).mono ?_; rintro e w' ⟨rfl, hb⟩; have hk := HBL.out.below hb; have g0 := hk.cell 0; have g1 := hk.cell 1; have g6 := hk.cell 6; have g7 := hk.cell 7; clear hk)
            go_ret
            first | exact ⟨by rw [HR.out]; rfl, HB.out⟩ | exact ⟨by rw [HR.out]; rfl, below_next HB.out hb⟩
    · skip
      have HR := hide (show rightSyB ⟨4, t, s, n, p⟩ = false by unfold rightSyB; simp [zt.out, zp.out])
      go_enter Try.func101, Try.ntmps101
      go_wp2_with (go_at_call 84; refine (HNn.out _).mono ?_; rintro e w' ⟨rfl, hb⟩; have hk := HBL.out.below hb; have g0 := hk.cell 0; have g1 := hk.cell 1; have g6 := hk.cell 6; have g7 := hk.cell 7; clear hk)
      go_ret
      first | exact ⟨by rw [HR.out]; rfl, HB.out⟩ | exact ⟨by rw [HR.out]; rfl, below_next HB.out hb⟩
  · skip
    have HR := hide (show rightSyB ⟨4, t, s, n, p⟩ = false by unfold rightSyB; simp [zt.out])
    go_enter Try.func101, Try.ntmps101
    go_wp2_with (go_at_call 84; refine (HNn.out _).mono ?_; rintro e w' ⟨rfl, hb⟩; have hk := HBL.out.below hb; have g0 := hk.cell 0; have g1 := hk.cell 1; have g6 := hk.cell 6; have g7 := hk.cell 7; clear hk)
    go_ret
    first | exact ⟨by rw [HR.out]; rfl, HB.out⟩ | exact ⟨by rw [HR.out]; rfl, below_next HB.out hb⟩
set_option maxHeartbeats 4000000 in
set_option maxRecDepth 100000 in
theorem sy5 (t : ByteArray) (s : St) (n p : ByteArray) (w : World) (hs : s.ok) (hn : short n) : Calls Try.prog 101 #[.agg #[.int .i64 5, .string t, .int .u64 (s.w0 : Int), .int .u64 (s.w1 : Int), .int .u64 (s.w2 : Int), .int .u64 (s.w3 : Int), .string n, .string p]] w fun e w' => e = .returned (.bool (rightSyB ⟨5, t, s, n, p⟩)) ∧ Below w.heap.size w w' := by
  have HB := hide ((Below.refl w.heap.size w).alloc (Nat.le_refl _) (.cells #[.int .i64 5, .string t, .int .u64 (s.w0 : Int), .int .u64 (s.w1 : Int), .int .u64 (s.w2 : Int), .int .u64 (s.w3 : Int), .string n, .string p] 61))
  have HBL := hide (Blk.new w #[.int .i64 5, .string t, .int .u64 (s.w0 : Int), .int .u64 (s.w1 : Int), .int .u64 (s.w2 : Int), .int .u64 (s.w3 : Int), .string n, .string p] 61)
  have HNn := hide (fun W => named_any n false W hn)
  have HZs := hide (fun W => neq_zero s hs W)
  change Hid (∀ W, (binOp .neq 46 _ _).run Try.prog W = .ok (.bool (!setZ s)) W) at HZs
  have hqs0 := HZs.out
  rcases emp_or n with ⟨bn, zn, yn, vn, xn⟩ | ⟨bn, zn, yn, vn, xn⟩
  · skip
    rcases emp_or t with ⟨bt, zt, yt, vt, xt⟩ | ⟨bt, zt, yt, vt, xt⟩
    · skip
      rcases emp_or p with ⟨bp, zp, yp, vp, xp⟩ | ⟨bp, zp, yp, vp, xp⟩
      · skip
        have HR := hide (show rightSyB ⟨5, t, s, n, p⟩ = true by unfold rightSyB; simp [zn.out, zt.out, zp.out])
        go_enter Try.func101, Try.ntmps101
        go_wp2_with (go_at_call 84; refine (HNn.out _).mono ?_; rintro e w' ⟨rfl, hb⟩; have hk := HBL.out.below hb; have g0 := hk.cell 0; have g1 := hk.cell 1; have g6 := hk.cell 6; have g7 := hk.cell 7; clear hk)
        go_ret
        first | exact ⟨by rw [HR.out]; rfl, HB.out⟩ | exact ⟨by rw [HR.out]; rfl, below_next HB.out hb⟩
      · skip
        have HR := hide (show rightSyB ⟨5, t, s, n, p⟩ = false by unfold rightSyB; simp [zn.out, zt.out, zp.out])
        go_enter Try.func101, Try.ntmps101
        go_wp2_with (go_at_call 84; refine (HNn.out _).mono ?_; rintro e w' ⟨rfl, hb⟩; have hk := HBL.out.below hb; have g0 := hk.cell 0; have g1 := hk.cell 1; have g6 := hk.cell 6; have g7 := hk.cell 7; clear hk)
        go_ret
        first | exact ⟨by rw [HR.out]; rfl, HB.out⟩ | exact ⟨by rw [HR.out]; rfl, below_next HB.out hb⟩
    · skip
      have HR := hide (show rightSyB ⟨5, t, s, n, p⟩ = false by unfold rightSyB; simp [zn.out, zt.out])
      go_enter Try.func101, Try.ntmps101
      go_wp2_with (go_at_call 84; refine (HNn.out _).mono ?_; rintro e w' ⟨rfl, hb⟩; have hk := HBL.out.below hb; have g0 := hk.cell 0; have g1 := hk.cell 1; have g6 := hk.cell 6; have g7 := hk.cell 7; clear hk)
      go_ret
      first | exact ⟨by rw [HR.out]; rfl, HB.out⟩ | exact ⟨by rw [HR.out]; rfl, below_next HB.out hb⟩
  · skip
    rcases emp_or t with ⟨bt, zt, yt, vt, xt⟩ | ⟨bt, zt, yt, vt, xt⟩
    · skip
      cases hzs : setZ s
      · rw [hzs] at HZs
        have hqs := HZs.out
        simp only [Bool.not_true, Bool.not_false] at hqs
        have Hzs := hide hzs
        clear hzs hqs0
        have HR := hide (show rightSyB ⟨5, t, s, n, p⟩ = false by unfold rightSyB; simp [zn.out, zt.out, Hzs.out])
        go_enter Try.func101, Try.ntmps101
        go_wp2_with (go_at_call 84; refine (HNn.out _).mono ?_; rintro e w' ⟨rfl, hb⟩; have hk := HBL.out.below hb; have g0 := hk.cell 0; have g1 := hk.cell 1; have g6 := hk.cell 6; have g7 := hk.cell 7; clear hk)
        go_ret
        first | exact ⟨by rw [HR.out]; rfl, HB.out⟩ | exact ⟨by rw [HR.out]; rfl, below_next HB.out hb⟩
      · rw [hzs] at HZs
        have hqs := HZs.out
        simp only [Bool.not_true, Bool.not_false] at hqs
        have Hzs := hide hzs
        clear hzs hqs0
        cases hnn : namedB n false
        · rw [hnn] at HNn
          have Hnn := hide hnn
          clear hnn
          have HR := hide (show rightSyB ⟨5, t, s, n, p⟩ = false by unfold rightSyB; simp [zn.out, zt.out, Hzs.out, Hnn.out])
          go_enter Try.func101, Try.ntmps101
          go_wp2_with (go_at_call 84; refine (HNn.out _).mono ?_; rintro e w' ⟨rfl, hb⟩; have hk := HBL.out.below hb; have g0 := hk.cell 0; have g1 := hk.cell 1; have g6 := hk.cell 6; have g7 := hk.cell 7; clear hk)
          go_ret
          first | exact ⟨by rw [HR.out]; rfl, HB.out⟩ | exact ⟨by rw [HR.out]; rfl, below_next HB.out hb⟩
        · rw [hnn] at HNn
          have Hnn := hide hnn
          clear hnn
          by_cases hsp : p.size ≤ 32
          · have hip : (p.size : Int) ≤ 32 := by omega
            have Hsp := hide hsp
            clear hsp
            have HR := hide (show rightSyB ⟨5, t, s, n, p⟩ = true by unfold rightSyB; simp [zn.out, zt.out, Hzs.out, Hnn.out, Hsp.out])
            go_enter Try.func101, Try.ntmps101
            go_wp2_with (go_at_call 84; refine (HNn.out _).mono ?_; rintro e w' ⟨rfl, hb⟩; have hk := HBL.out.below hb; have g0 := hk.cell 0; have g1 := hk.cell 1; have g6 := hk.cell 6; have g7 := hk.cell 7; clear hk)
            go_ret
            first | exact ⟨by rw [HR.out]; rfl, HB.out⟩ | exact ⟨by rw [HR.out]; rfl, below_next HB.out hb⟩
          · have hip : ¬ (p.size : Int) ≤ 32 := by omega
            have hjp : decide ((p.size : Int) ≤ 32) = false := decide_eq_false hip
            have Hsp := hide hsp
            clear hsp
            have HR := hide (show rightSyB ⟨5, t, s, n, p⟩ = false by unfold rightSyB; simp [zn.out, zt.out, Hzs.out, Hnn.out, Hsp.out])
            go_enter Try.func101, Try.ntmps101
            go_wp2_with (go_at_call 84; refine (HNn.out _).mono ?_; rintro e w' ⟨rfl, hb⟩; have hk := HBL.out.below hb; have g0 := hk.cell 0; have g1 := hk.cell 1; have g6 := hk.cell 6; have g7 := hk.cell 7; clear hk)
            go_ret
            first | exact ⟨by rw [HR.out]; rfl, HB.out⟩ | exact ⟨by rw [HR.out]; rfl, below_next HB.out hb⟩
    · skip
      have HR := hide (show rightSyB ⟨5, t, s, n, p⟩ = false by unfold rightSyB; simp [zn.out, zt.out])
      go_enter Try.func101, Try.ntmps101
      go_wp2_with (go_at_call 84; refine (HNn.out _).mono ?_; rintro e w' ⟨rfl, hb⟩; have hk := HBL.out.below hb; have g0 := hk.cell 0; have g1 := hk.cell 1; have g6 := hk.cell 6; have g7 := hk.cell 7; clear hk)
      go_ret
      first | exact ⟨by rw [HR.out]; rfl, HB.out⟩ | exact ⟨by rw [HR.out]; rfl, below_next HB.out hb⟩
set_option maxHeartbeats 4000000 in
set_option maxRecDepth 100000 in
theorem sy6 (t : ByteArray) (s : St) (n p : ByteArray) (w : World) (hs : s.ok) (hn : short n) : Calls Try.prog 101 #[.agg #[.int .i64 6, .string t, .int .u64 (s.w0 : Int), .int .u64 (s.w1 : Int), .int .u64 (s.w2 : Int), .int .u64 (s.w3 : Int), .string n, .string p]] w fun e w' => e = .returned (.bool (rightSyB ⟨6, t, s, n, p⟩)) ∧ Below w.heap.size w w' := by
  have HB := hide ((Below.refl w.heap.size w).alloc (Nat.le_refl _) (.cells #[.int .i64 6, .string t, .int .u64 (s.w0 : Int), .int .u64 (s.w1 : Int), .int .u64 (s.w2 : Int), .int .u64 (s.w3 : Int), .string n, .string p] 61))
  have HBL := hide (Blk.new w #[.int .i64 6, .string t, .int .u64 (s.w0 : Int), .int .u64 (s.w1 : Int), .int .u64 (s.w2 : Int), .int .u64 (s.w3 : Int), .string n, .string p] 61)
  have HNn := hide (fun W => named_any n false W hn)
  have HZs := hide (fun W => neq_zero s hs W)
  change Hid (∀ W, (binOp .neq 46 _ _).run Try.prog W = .ok (.bool (!setZ s)) W) at HZs
  have hqs0 := HZs.out
  rcases emp_or n with ⟨bn, zn, yn, vn, xn⟩ | ⟨bn, zn, yn, vn, xn⟩
  · skip
    rcases emp_or t with ⟨bt, zt, yt, vt, xt⟩ | ⟨bt, zt, yt, vt, xt⟩
    · skip
      rcases emp_or p with ⟨bp, zp, yp, vp, xp⟩ | ⟨bp, zp, yp, vp, xp⟩
      · skip
        have HR := hide (show rightSyB ⟨6, t, s, n, p⟩ = true by unfold rightSyB; simp [zn.out, zt.out, zp.out])
        go_enter Try.func101, Try.ntmps101
        go_wp2_with (go_at_call 84; refine (HNn.out _).mono ?_; rintro e w' ⟨rfl, hb⟩; have hk := HBL.out.below hb; have g0 := hk.cell 0; have g1 := hk.cell 1; have g6 := hk.cell 6; have g7 := hk.cell 7; clear hk)
        go_ret
        first | exact ⟨by rw [HR.out]; rfl, HB.out⟩ | exact ⟨by rw [HR.out]; rfl, below_next HB.out hb⟩
      · skip
        have HR := hide (show rightSyB ⟨6, t, s, n, p⟩ = false by unfold rightSyB; simp [zn.out, zt.out, zp.out])
        go_enter Try.func101, Try.ntmps101
        go_wp2_with (go_at_call 84; refine (HNn.out _).mono ?_; rintro e w' ⟨rfl, hb⟩; have hk := HBL.out.below hb; have g0 := hk.cell 0; have g1 := hk.cell 1; have g6 := hk.cell 6; have g7 := hk.cell 7; clear hk)
        go_ret
        first | exact ⟨by rw [HR.out]; rfl, HB.out⟩ | exact ⟨by rw [HR.out]; rfl, below_next HB.out hb⟩
    · skip
      have HR := hide (show rightSyB ⟨6, t, s, n, p⟩ = false by unfold rightSyB; simp [zn.out, zt.out])
      go_enter Try.func101, Try.ntmps101
      go_wp2_with (go_at_call 84; refine (HNn.out _).mono ?_; rintro e w' ⟨rfl, hb⟩; have hk := HBL.out.below hb; have g0 := hk.cell 0; have g1 := hk.cell 1; have g6 := hk.cell 6; have g7 := hk.cell 7; clear hk)
      go_ret
      first | exact ⟨by rw [HR.out]; rfl, HB.out⟩ | exact ⟨by rw [HR.out]; rfl, below_next HB.out hb⟩
  · skip
    rcases emp_or t with ⟨bt, zt, yt, vt, xt⟩ | ⟨bt, zt, yt, vt, xt⟩
    · skip
      cases hzs : setZ s
      · rw [hzs] at HZs
        have hqs := HZs.out
        simp only [Bool.not_true, Bool.not_false] at hqs
        have Hzs := hide hzs
        clear hzs hqs0
        have HR := hide (show rightSyB ⟨6, t, s, n, p⟩ = false by unfold rightSyB; simp [zn.out, zt.out, Hzs.out])
        go_enter Try.func101, Try.ntmps101
        go_wp2_with (go_at_call 84; refine (HNn.out _).mono ?_; rintro e w' ⟨rfl, hb⟩; have hk := HBL.out.below hb; have g0 := hk.cell 0; have g1 := hk.cell 1; have g6 := hk.cell 6; have g7 := hk.cell 7; clear hk)
        go_ret
        first | exact ⟨by rw [HR.out]; rfl, HB.out⟩ | exact ⟨by rw [HR.out]; rfl, below_next HB.out hb⟩
      · rw [hzs] at HZs
        have hqs := HZs.out
        simp only [Bool.not_true, Bool.not_false] at hqs
        have Hzs := hide hzs
        clear hzs hqs0
        cases hnn : namedB n false
        · rw [hnn] at HNn
          have Hnn := hide hnn
          clear hnn
          have HR := hide (show rightSyB ⟨6, t, s, n, p⟩ = false by unfold rightSyB; simp [zn.out, zt.out, Hzs.out, Hnn.out])
          go_enter Try.func101, Try.ntmps101
          go_wp2_with (go_at_call 84; refine (HNn.out _).mono ?_; rintro e w' ⟨rfl, hb⟩; have hk := HBL.out.below hb; have g0 := hk.cell 0; have g1 := hk.cell 1; have g6 := hk.cell 6; have g7 := hk.cell 7; clear hk)
          go_ret
          first | exact ⟨by rw [HR.out]; rfl, HB.out⟩ | exact ⟨by rw [HR.out]; rfl, below_next HB.out hb⟩
        · rw [hnn] at HNn
          have Hnn := hide hnn
          clear hnn
          by_cases hsp : p.size ≤ 32
          · have hip : (p.size : Int) ≤ 32 := by omega
            have Hsp := hide hsp
            clear hsp
            have HR := hide (show rightSyB ⟨6, t, s, n, p⟩ = true by unfold rightSyB; simp [zn.out, zt.out, Hzs.out, Hnn.out, Hsp.out])
            go_enter Try.func101, Try.ntmps101
            go_wp2_with (go_at_call 84; refine (HNn.out _).mono ?_; rintro e w' ⟨rfl, hb⟩; have hk := HBL.out.below hb; have g0 := hk.cell 0; have g1 := hk.cell 1; have g6 := hk.cell 6; have g7 := hk.cell 7; clear hk)
            go_ret
            first | exact ⟨by rw [HR.out]; rfl, HB.out⟩ | exact ⟨by rw [HR.out]; rfl, below_next HB.out hb⟩
          · have hip : ¬ (p.size : Int) ≤ 32 := by omega
            have hjp : decide ((p.size : Int) ≤ 32) = false := decide_eq_false hip
            have Hsp := hide hsp
            clear hsp
            have HR := hide (show rightSyB ⟨6, t, s, n, p⟩ = false by unfold rightSyB; simp [zn.out, zt.out, Hzs.out, Hnn.out, Hsp.out])
            go_enter Try.func101, Try.ntmps101
            go_wp2_with (go_at_call 84; refine (HNn.out _).mono ?_; rintro e w' ⟨rfl, hb⟩; have hk := HBL.out.below hb; have g0 := hk.cell 0; have g1 := hk.cell 1; have g6 := hk.cell 6; have g7 := hk.cell 7; clear hk)
            go_ret
            first | exact ⟨by rw [HR.out]; rfl, HB.out⟩ | exact ⟨by rw [HR.out]; rfl, below_next HB.out hb⟩
    · skip
      have HR := hide (show rightSyB ⟨6, t, s, n, p⟩ = false by unfold rightSyB; simp [zn.out, zt.out])
      go_enter Try.func101, Try.ntmps101
      go_wp2_with (go_at_call 84; refine (HNn.out _).mono ?_; rintro e w' ⟨rfl, hb⟩; have hk := HBL.out.below hb; have g0 := hk.cell 0; have g1 := hk.cell 1; have g6 := hk.cell 6; have g7 := hk.cell 7; clear hk)
      go_ret
      first | exact ⟨by rw [HR.out]; rfl, HB.out⟩ | exact ⟨by rw [HR.out]; rfl, below_next HB.out hb⟩
set_option maxHeartbeats 4000000 in
set_option maxRecDepth 100000 in
theorem sy7 (kd : Int) (t : ByteArray) (s : St) (n p : ByteArray) (w : World) (hs : s.ok) (hn : short n) (h1 : kd ≠ 1) (h2 : kd ≠ 2) (h3 : kd ≠ 3) (h4 : kd ≠ 4) (h5 : kd ≠ 5) (h6 : kd ≠ 6) : Calls Try.prog 101 #[.agg #[.int .i64 kd, .string t, .int .u64 (s.w0 : Int), .int .u64 (s.w1 : Int), .int .u64 (s.w2 : Int), .int .u64 (s.w3 : Int), .string n, .string p]] w fun e w' => e = .returned (.bool (rightSyB ⟨kd, t, s, n, p⟩)) ∧ Below w.heap.size w w' := by
  have HB := hide ((Below.refl w.heap.size w).alloc (Nat.le_refl _) (.cells #[.int .i64 kd, .string t, .int .u64 (s.w0 : Int), .int .u64 (s.w1 : Int), .int .u64 (s.w2 : Int), .int .u64 (s.w3 : Int), .string n, .string p] 61))
  have HBL := hide (Blk.new w #[.int .i64 kd, .string t, .int .u64 (s.w0 : Int), .int .u64 (s.w1 : Int), .int .u64 (s.w2 : Int), .int .u64 (s.w3 : Int), .string n, .string p] 61)
  have HNn := hide (fun W => named_any n false W hn)
  have HZs := hide (fun W => neq_zero s hs W)
  change Hid (∀ W, (binOp .neq 46 _ _).run Try.prog W = .ok (.bool (!setZ s)) W) at HZs
  have hqs0 := HZs.out
  have n1 : (kd == 1) = false := by simpa using h1
  have n2 : (kd == 2) = false := by simpa using h2
  have n3 : (kd == 3) = false := by simpa using h3
  have n4 : (kd == 4) = false := by simpa using h4
  have n5 : (kd == 5) = false := by simpa using h5
  have n6 : (kd == 6) = false := by simpa using h6
  have HK := hide (And.intro h1 (And.intro h2 (And.intro h3 (And.intro h4 (And.intro h5 h6)))))
  clear h1 h2 h3 h4 h5 h6
  have HR := hide (show rightSyB ⟨kd, t, s, n, p⟩ = false by unfold rightSyB; simp [HK.out.1, HK.out.2.1, HK.out.2.2.1, HK.out.2.2.2.1, HK.out.2.2.2.2.1, HK.out.2.2.2.2.2])
  go_enter Try.func101, Try.ntmps101
  go_wp2_with (go_at_call 84; refine (HNn.out _).mono ?_; rintro e w' ⟨rfl, hb⟩; have hk := HBL.out.below hb; have g0 := hk.cell 0; have g1 := hk.cell 1; have g6 := hk.cell 6; have g7 := hk.cell 7; clear hk)
  go_ret
  first | exact ⟨by rw [HR.out]; rfl, HB.out⟩ | exact ⟨by rw [HR.out]; rfl, below_next HB.out hb⟩
theorem rightSym_any (x : Sy) (hx : x.ok) (w : World) : Calls Try.prog 101 #[.agg #[.int .i64 x.kind, .string x.text, .int .u64 (x.set.w0 : Int), .int .u64 (x.set.w1 : Int), .int .u64 (x.set.w2 : Int), .int .u64 (x.set.w3 : Int), .string x.name, .string x.sep]] w fun e w' => e = .returned (.bool (rightSyB x)) ∧ Below w.heap.size w w' := by
  obtain ⟨kd, t, s, n, p⟩ := x
  have hs : s.ok := hx.s
  have hn : short n := hx.n
  clear hx
  by_cases h1 : kd = 1
  · subst h1; exact sy1 t s n p w hs hn
  by_cases h2 : kd = 2
  · subst h2; exact sy2 t s n p w hs hn
  by_cases h3 : kd = 3
  · subst h3; exact sy3 t s n p w hs hn
  by_cases h4 : kd = 4
  · subst h4; exact sy4 t s n p w hs hn
  by_cases h5 : kd = 5
  · subst h5; exact sy5 t s n p w hs hn
  by_cases h6 : kd = 6
  · subst h6; exact sy6 t s n p w hs hn
  exact sy7 kd t s n p w hs hn h1 h2 h3 h4 h5 h6
end Go.Proofs.Ytalicfpcmcbdbaa
