/- Equality of two sets. -/
import Derived.Test.YtfngkdcjifdliaaLexT
import Derived.DeepKeys
set_option linter.unusedVariables false
set_option linter.unusedSimpArgs false
set_option linter.unnecessarySimpa false
namespace Go.Proofs.Ytfngkdcjifdliaa
open Go.RowKit
theorem cells24 : Try.prog.cellsOf 24 = 4 := by kernel_rfl
theorem cells22 : Try.prog.cellsOf 22 = 1 := by kernel_rfl
theorem und22 : Try.prog.underlying 22 = some (.int .u64) := by kernel_rfl
theorem key24 : Try.prog.keyTypeAt 2 24 = true := by kernel_rfl
theorem lits24 (s : St) (h : s.ok) : Try.prog.keyLits 2 24 [.int .u64 (s.w0 : Int), .int .u64 (s.w1 : Int), .int .u64 (s.w2 : Int), .int .u64 (s.w3 : Int)] = some [.int .u64 (s.w0 : Int), .int .u64 (s.w1 : Int), .int .u64 (s.w2 : Int), .int .u64 (s.w3 : Int)] := by
  obtain ⟨h0, h1, h2, h3⟩ := h
  have wf : ∀ n : Nat, n < 18446744073709551616 → (Lit.int .u64 (n : Int)).wf = true := by
    intro n hn
    simp only [Lit.wf, Bool.and_eq_true, decide_eq_true_eq]
    exact ⟨by show (0 : Int) ≤ n; omega, by show (n : Int) ≤ 18446744073709551615; omega⟩
  have one : ∀ n : Nat, n < 18446744073709551616 → Try.prog.keyLits 1 22 [.int .u64 (n : Int)] = some [.int .u64 (n : Int)] := by
    intro n hn
    show Try.prog.keyLits (0 + 1) 22 _ = _
    rw [Program.keyLits, if_pos ⟨rfl, wf n hn⟩]
    exact und22
  show Try.prog.keyLits (1 + 1) 24 _ = _
  rw [Program.keyLits]
  case heq => exact Try.underlying24
  simp only [cells24, cells22]
  rw [if_pos (by rfl), show List.range 4 = [0, 1, 2, 3] from rfl]
  simp [one _ h0, one _ h1, one _ h2, one _ h3]
theorem eql_set (w : World) (s : St) (h : s.ok) : (binOp .eql 24 (.agg #[.int .u64 (s.w0 : Int), .int .u64 (s.w1 : Int), .int .u64 (s.w2 : Int), .int .u64 (s.w3 : Int)]) (.agg #[.int .u64 (s.w0 : Int), .int .u64 (s.w1 : Int), .int .u64 (s.w2 : Int), .int .u64 (s.w3 : Int)])).run Try.prog w = .ok (.bool true) w := by
  have hf : (Value.agg #[.int .u64 (s.w0 : Int), .int .u64 (s.w1 : Int), .int .u64 (s.w2 : Int), .int .u64 (s.w3 : Int)]).formed Try.prog 24 = true := by
    simp only [Value.formed, Try.underlying24, cells24]
    rfl
  obtain ⟨r, hr, hiff⟩ := run_equalIn_deep (P := Try.prog) 9998 2 24 key24 w 2 2 _ _ _ _ hf hf (lits24 s h) (lits24 s h)
  have hrt : r = true := hiff.2 rfl
  subst hrt
  have hr2 : (Op.equal 24 (.agg #[.int .u64 (s.w0 : Int), .int .u64 (s.w1 : Int), .int .u64 (s.w2 : Int), .int .u64 (s.w3 : Int)]) (.agg #[.int .u64 (s.w0 : Int), .int .u64 (s.w1 : Int), .int .u64 (s.w2 : Int), .int .u64 (s.w3 : Int)])).run Try.prog w = .ok true w := hr
  simp only [binOp, Sem.run_bind, hr2, Result.andThen_ok, Sem.run_pure]
end Go.Proofs.Ytfngkdcjifdliaa
