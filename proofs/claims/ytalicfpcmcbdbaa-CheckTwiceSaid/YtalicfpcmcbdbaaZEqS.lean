/- Equality of sets, of symbols, of follows, of rejects. -/
import Derived.Test.YtalicfpcmcbdbaaZMapF
set_option linter.unusedVariables false
set_option linter.unusedSimpArgs false
set_option linter.unnecessarySimpa false
set_option linter.deprecated false
namespace Go.Proofs.Ytalicfpcmcbdbaa
open Go.RowKit

theorem cells46 : Try.prog.cellsOf 46 = 4 := by kernel_rfl
theorem cells44 : Try.prog.cellsOf 44 = 1 := by kernel_rfl
theorem cells3 : Try.prog.cellsOf 3 = 1 := by kernel_rfl
theorem cells9 : Try.prog.cellsOf 9 = 1 := by kernel_rfl
theorem cells61 : Try.prog.cellsOf 61 = 8 := by kernel_rfl
theorem cells48 : Try.prog.cellsOf 48 = 5 := by kernel_rfl
theorem cells50 : Try.prog.cellsOf 50 = 2 := by kernel_rfl
theorem key46 : Try.prog.keyTypeAt 2 46 = true := by kernel_rfl
theorem key61 : Try.prog.keyTypeAt 3 61 = true := by kernel_rfl
theorem key48 : Try.prog.keyTypeAt 3 48 = true := by kernel_rfl
theorem key50 : Try.prog.keyTypeAt 2 50 = true := by kernel_rfl
theorem und44 : Try.prog.underlying 44 = some (.int .u64) := by kernel_rfl
def stL (s : St) : List Lit := [.int .u64 (s.w0 : Int), .int .u64 (s.w1 : Int), .int .u64 (s.w2 : Int), .int .u64 (s.w3 : Int)]
theorem stL_inj {a b : St} (h : stL a = stL b) : a = b := by
  obtain ⟨a0, a1, a2, a3⟩ := a
  obtain ⟨b0, b1, b2, b3⟩ := b
  simp only [stL, List.cons.injEq, Lit.int.injEq, true_and, and_true, Int.ofNat_inj] at h
  obtain ⟨h0, h1, h2, h3⟩ := h
  rw [h0, h1, h2, h3]
theorem lit_u64 (n : Nat) (hn : n < 18446744073709551616) (d : Nat) : Try.prog.keyLits (d + 1) 44 [.int .u64 (n : Int)] = some [.int .u64 (n : Int)] := by
  have wf : (Lit.int .u64 (n : Int)).wf = true := by
    simp only [Lit.wf, Bool.and_eq_true, decide_eq_true_eq]
    exact ⟨by show (0 : Int) ≤ n; omega, by show (n : Int) ≤ 18446744073709551615; omega⟩
  rw [Program.keyLits, if_pos ⟨rfl, wf⟩]
  exact und44
theorem lit_i64 (n : Int) (hn : i64 n) (d : Nat) : Try.prog.keyLits (d + 1) 3 [.int .i64 n] = some [.int .i64 n] := by
  have wf : (Lit.int .i64 n).wf = true := by
    simp only [Lit.wf, Bool.and_eq_true, decide_eq_true_eq]
    exact hn
  rw [Program.keyLits, if_pos ⟨rfl, wf⟩]
  exact Try.underlying3
theorem lit_str (s : ByteArray) (hs : short s) (d : Nat) : Try.prog.keyLits (d + 1) 9 [.string s] = some [.string s.data.toList] := by
  rw [Program.keyLits, if_pos (by unfold short at hs; unfold maxLen; omega)]
  exact Try.underlying9
theorem lit_set (s : St) (h : s.ok) (d : Nat) : Try.prog.keyLits (d + 1 + 1) 46 [.int .u64 (s.w0 : Int), .int .u64 (s.w1 : Int), .int .u64 (s.w2 : Int), .int .u64 (s.w3 : Int)] = some (stL s) := by
  obtain ⟨h0, h1, h2, h3⟩ := h
  rw [Program.keyLits]
  case heq => exact Try.underlying46
  simp only [cells46, cells44]
  rw [if_pos (by rfl), show List.range 4 = [0, 1, 2, 3] from rfl]
  simp [lit_u64 _ h0, lit_u64 _ h1, lit_u64 _ h2, lit_u64 _ h3, stL]
theorem data_inj {s t : ByteArray} (h : s.data.toList = t.data.toList) : s = t := by
  obtain ⟨⟨s⟩⟩ := s
  obtain ⟨⟨t⟩⟩ := t
  simpa using h
theorem equal_of {t : TypeId} {m : Nat} (hm : m ≤ 10000) (hk : Try.prog.keyTypeAt m t = true) {x y : Array Value} {dx dy : Nat} {lx ly : List Lit} (w : World) (fx : (Value.agg x).formed Try.prog t = true) (fy : (Value.agg y).formed Try.prog t = true) (hx : Try.prog.keyLits dx t x.toList = some lx) (hy : Try.prog.keyLits dy t y.toList = some ly) {p : Prop} [Decidable p] (hp : lx = ly ↔ p) :
    (Op.equal t (.agg x) (.agg y)).run Try.prog w = .ok (decide p) w := by
  obtain ⟨r, hr, hiff⟩ := run_equalIn_deep (P := Try.prog) (10000 - m) m t hk w dx dy (.agg x) (.agg y) lx ly fx fy hx hy
  rw [show 10000 - m + m = 10000 by omega] at hr
  have e : r = decide p := by rw [Bool.eq_iff_iff, hiff, hp, decide_eq_true_eq]
  rw [← e]
  exact hr
theorem run_eql {t : TypeId} {x y : Array Value} {b : Bool} {w : World} (h : (Op.equal t (.agg x) (.agg y)).run Try.prog w = .ok b w) : (binOp .eql t (.agg x) (.agg y)).run Try.prog w = .ok (.bool b) w := by
  simp only [binOp, Sem.run_bind, h, Result.andThen_ok, Sem.run_pure]
theorem run_neq {t : TypeId} {x y : Array Value} {b : Bool} {w : World} (h : (Op.equal t (.agg x) (.agg y)).run Try.prog w = .ok b w) : (binOp .neq t (.agg x) (.agg y)).run Try.prog w = .ok (.bool (!b)) w := by
  simp only [binOp, Sem.run_bind, h, Result.andThen_ok, Sem.run_pure]
theorem equal_set (a b : St) (ha : a.ok) (hb : b.ok) (w : World) : (Op.equal 46 (.agg #[.int .u64 (a.w0 : Int), .int .u64 (a.w1 : Int), .int .u64 (a.w2 : Int), .int .u64 (a.w3 : Int)]) (.agg #[.int .u64 (b.w0 : Int), .int .u64 (b.w1 : Int), .int .u64 (b.w2 : Int), .int .u64 (b.w3 : Int)])).run Try.prog w = .ok (decide (a = b)) w := by
  have hf : ∀ s : St, (Value.agg #[.int .u64 (s.w0 : Int), .int .u64 (s.w1 : Int), .int .u64 (s.w2 : Int), .int .u64 (s.w3 : Int)]).formed Try.prog 46 = true := by
    intro s
    simp only [Value.formed, Try.underlying46, cells46]
    rfl
  exact equal_of (m := 2) (by decide) key46 w (hf a) (hf b) (lit_set a ha 0) (lit_set b hb 0) ⟨stL_inj, fun h => by rw [h]⟩
theorem neq_zero (a : St) (ha : a.ok) (w : World) : (binOp .neq 46 (.agg #[.int .u64 (a.w0 : Int), .int .u64 (a.w1 : Int), .int .u64 (a.w2 : Int), .int .u64 (a.w3 : Int)]) (.agg #[.int .u64 0, .int .u64 0, .int .u64 0, .int .u64 0])).run Try.prog w = .ok (.bool (!decide (a = zS))) w :=
  run_neq (equal_set a zS ha zS_ok w)
theorem eql_zero (a : St) (ha : a.ok) (w : World) : (binOp .eql 46 (.agg #[.int .u64 (a.w0 : Int), .int .u64 (a.w1 : Int), .int .u64 (a.w2 : Int), .int .u64 (a.w3 : Int)]) (.agg #[.int .u64 0, .int .u64 0, .int .u64 0, .int .u64 0])).run Try.prog w = .ok (.bool (decide (a = zS))) w :=
  run_eql (equal_set a zS ha zS_ok w)
end Go.Proofs.Ytalicfpcmcbdbaa
