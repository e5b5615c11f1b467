/- Equality of symbols, follows and rejects. -/
import Derived.Test.YtalicfpcmcbdbaaZRSym
set_option linter.unusedVariables false
set_option linter.unusedSimpArgs false
set_option linter.unnecessarySimpa false
set_option linter.deprecated false
namespace Go.Proofs.Ytalicfpcmcbdbaa
open Go.RowKit

def syL (x : Sy) : List Lit := [.int .i64 x.kind, .string x.text.data.toList] ++ stL x.set ++ [.string x.name.data.toList, .string x.sep.data.toList]
theorem syL_inj {a b : Sy} (h : syL a = syL b) : a = b := by
  obtain ⟨ak, at_, ⟨a0, a1, a2, a3⟩, an, ap⟩ := a
  obtain ⟨bk, bt, ⟨b0, b1, b2, b3⟩, bn, bp⟩ := b
  simp only [syL, stL, List.cons_append, List.nil_append, List.cons.injEq, Lit.int.injEq, Lit.string.injEq, true_and, and_true, Int.ofNat_inj] at h
  obtain ⟨h1, h2, h3, h4, h5, h6, h7, h8⟩ := h
  rw [h1, data_inj h2, h3, h4, h5, h6, data_inj h7, data_inj h8]
theorem lit_sym (x : Sy) (h : x.ok) (d : Nat) : Try.prog.keyLits (d + 1 + 1 + 1) 61 [.int .i64 x.kind, .string x.text, .int .u64 (x.set.w0 : Int), .int .u64 (x.set.w1 : Int), .int .u64 (x.set.w2 : Int), .int .u64 (x.set.w3 : Int), .string x.name, .string x.sep] = some (syL x) := by
  have hs := lit_set x.set h.s d
  have hk := lit_i64 x.kind h.k (d + 1)
  have ht := lit_str x.text h.t (d + 1)
  have hn := lit_str x.name h.n (d + 1)
  have hp := lit_str x.sep h.p (d + 1)
  unfold Program.keyLits
  simp only [Try.underlying61]
  rw [if_pos ⟨by rw [cells61]; rfl, by decide +kernel⟩]
  simp only [List.mapM_cons, List.mapM_nil, cells3, cells9, cells46, List.drop_zero, List.drop_succ_cons, List.take_succ_cons, List.take_zero]
  simp [hs, hk, ht, hn, hp, syL]
theorem equal_sym (a b : Sy) (ha : a.ok) (hb : b.ok) (w : World) : (Op.equal 61 (.agg #[.int .i64 a.kind, .string a.text, .int .u64 (a.set.w0 : Int), .int .u64 (a.set.w1 : Int), .int .u64 (a.set.w2 : Int), .int .u64 (a.set.w3 : Int), .string a.name, .string a.sep]) (.agg #[.int .i64 b.kind, .string b.text, .int .u64 (b.set.w0 : Int), .int .u64 (b.set.w1 : Int), .int .u64 (b.set.w2 : Int), .int .u64 (b.set.w3 : Int), .string b.name, .string b.sep])).run Try.prog w = .ok (decide (a = b)) w := by
  have hf : ∀ x : Sy, (Value.agg #[.int .i64 x.kind, .string x.text, .int .u64 (x.set.w0 : Int), .int .u64 (x.set.w1 : Int), .int .u64 (x.set.w2 : Int), .int .u64 (x.set.w3 : Int), .string x.name, .string x.sep]).formed Try.prog 61 = true := by
    intro s
    simp only [Value.formed, Try.underlying61, cells61]
    rfl
  exact equal_of (m := 3) (by decide) key61 w (hf a) (hf b) (lit_sym a ha 0) (lit_sym b hb 0) ⟨syL_inj, fun h => by rw [h]⟩
theorem eql_sym (a b : Sy) (ha : a.ok) (hb : b.ok) (w : World) : (binOp .eql 61 (.agg #[.int .i64 a.kind, .string a.text, .int .u64 (a.set.w0 : Int), .int .u64 (a.set.w1 : Int), .int .u64 (a.set.w2 : Int), .int .u64 (a.set.w3 : Int), .string a.name, .string a.sep]) (.agg #[.int .i64 b.kind, .string b.text, .int .u64 (b.set.w0 : Int), .int .u64 (b.set.w1 : Int), .int .u64 (b.set.w2 : Int), .int .u64 (b.set.w3 : Int), .string b.name, .string b.sep])).run Try.prog w = .ok (.bool (decide (a = b))) w := run_eql (equal_sym a b ha hb w)
theorem neq_sym (a b : Sy) (ha : a.ok) (hb : b.ok) (w : World) : (binOp .neq 61 (.agg #[.int .i64 a.kind, .string a.text, .int .u64 (a.set.w0 : Int), .int .u64 (a.set.w1 : Int), .int .u64 (a.set.w2 : Int), .int .u64 (a.set.w3 : Int), .string a.name, .string a.sep]) (.agg #[.int .i64 b.kind, .string b.text, .int .u64 (b.set.w0 : Int), .int .u64 (b.set.w1 : Int), .int .u64 (b.set.w2 : Int), .int .u64 (b.set.w3 : Int), .string b.name, .string b.sep])).run Try.prog w = .ok (.bool (!decide (a = b))) w := run_neq (equal_sym a b ha hb w)
def flL (x : Fl) : List Lit := [.string x.sort.data.toList] ++ stL x.set
theorem flL_inj {a b : Fl} (h : flL a = flL b) : a = b := by
  obtain ⟨at_, ⟨a0, a1, a2, a3⟩⟩ := a
  obtain ⟨bt, ⟨b0, b1, b2, b3⟩⟩ := b
  simp only [flL, stL, List.cons_append, List.nil_append, List.cons.injEq, Lit.int.injEq, Lit.string.injEq, true_and, and_true, Int.ofNat_inj] at h
  obtain ⟨h1, h2, h3, h4, h5⟩ := h
  rw [data_inj h1, h2, h3, h4, h5]
theorem lit_fl (x : Fl) (h : x.ok) (d : Nat) : Try.prog.keyLits (d + 1 + 1 + 1) 48 [.string x.sort, .int .u64 (x.set.w0 : Int), .int .u64 (x.set.w1 : Int), .int .u64 (x.set.w2 : Int), .int .u64 (x.set.w3 : Int)] = some (flL x) := by
  have hs := lit_set x.set h.2 d
  have ht := lit_str x.sort h.1 (d + 1)
  unfold Program.keyLits
  simp only [Try.underlying48]
  rw [if_pos ⟨by rw [cells48]; rfl, by decide +kernel⟩]
  simp only [List.mapM_cons, List.mapM_nil, cells9, cells46, List.drop_zero, List.drop_succ_cons, List.take_succ_cons, List.take_zero]
  simp [hs, ht, flL]
theorem equal_fl (a b : Fl) (ha : a.ok) (hb : b.ok) (w : World) : (Op.equal 48 (.agg #[.string a.sort, .int .u64 (a.set.w0 : Int), .int .u64 (a.set.w1 : Int), .int .u64 (a.set.w2 : Int), .int .u64 (a.set.w3 : Int)]) (.agg #[.string b.sort, .int .u64 (b.set.w0 : Int), .int .u64 (b.set.w1 : Int), .int .u64 (b.set.w2 : Int), .int .u64 (b.set.w3 : Int)])).run Try.prog w = .ok (decide (a = b)) w := by
  have hf : ∀ x : Fl, (Value.agg #[.string x.sort, .int .u64 (x.set.w0 : Int), .int .u64 (x.set.w1 : Int), .int .u64 (x.set.w2 : Int), .int .u64 (x.set.w3 : Int)]).formed Try.prog 48 = true := by
    intro s
    simp only [Value.formed, Try.underlying48, cells48]
    rfl
  exact equal_of (m := 3) (by decide) key48 w (hf a) (hf b) (lit_fl a ha 0) (lit_fl b hb 0) ⟨flL_inj, fun h => by rw [h]⟩
theorem neq_fl (a b : Fl) (ha : a.ok) (hb : b.ok) (w : World) : (binOp .neq 48 (.agg #[.string a.sort, .int .u64 (a.set.w0 : Int), .int .u64 (a.set.w1 : Int), .int .u64 (a.set.w2 : Int), .int .u64 (a.set.w3 : Int)]) (.agg #[.string b.sort, .int .u64 (b.set.w0 : Int), .int .u64 (b.set.w1 : Int), .int .u64 (b.set.w2 : Int), .int .u64 (b.set.w3 : Int)])).run Try.prog w = .ok (.bool (!decide (a = b))) w := run_neq (equal_fl a b ha hb w)
def rjL (x : Rj) : List Lit := [.string x.sort.data.toList, .string x.by_.data.toList]
theorem rjL_inj {a b : Rj} (h : rjL a = rjL b) : a = b := by
  obtain ⟨at_, as_⟩ := a
  obtain ⟨bt, bs⟩ := b
  simp only [rjL, List.cons.injEq, Lit.string.injEq, true_and, and_true] at h
  obtain ⟨h1, h2⟩ := h
  rw [data_inj h1, data_inj h2]
theorem lit_rj (x : Rj) (h : x.ok) (d : Nat) : Try.prog.keyLits (d + 1 + 1) 50 [.string x.sort, .string x.by_] = some (rjL x) := by
  have hs := lit_str x.sort h.1 d
  have ht := lit_str x.by_ h.2 d
  unfold Program.keyLits
  simp only [Try.underlying50]
  rw [if_pos ⟨by rw [cells50]; rfl, by decide +kernel⟩]
  simp only [List.mapM_cons, List.mapM_nil, cells9, List.drop_zero, List.drop_succ_cons, List.take_succ_cons, List.take_zero]
  simp [hs, ht, rjL]
theorem equal_rj (a b : Rj) (ha : a.ok) (hb : b.ok) (w : World) : (Op.equal 50 (.agg #[.string a.sort, .string a.by_]) (.agg #[.string b.sort, .string b.by_])).run Try.prog w = .ok (decide (a = b)) w := by
  have hf : ∀ x : Rj, (Value.agg #[.string x.sort, .string x.by_]).formed Try.prog 50 = true := by
    intro s
    simp only [Value.formed, Try.underlying50, cells50]
    rfl
  exact equal_of (m := 2) (by decide) key50 w (hf a) (hf b) (lit_rj a ha 0) (lit_rj b hb 0) ⟨rjL_inj, fun h => by rw [h]⟩
theorem neq_rj (a b : Rj) (ha : a.ok) (hb : b.ok) (w : World) : (binOp .neq 50 (.agg #[.string a.sort, .string a.by_]) (.agg #[.string b.sort, .string b.by_])).run Try.prog w = .ok (.bool (!decide (a = b))) w := run_neq (equal_rj a b ha hb w)
end Go.Proofs.Ytalicfpcmcbdbaa
