/- The walks of the jobs' write: one contract for all kinds. -/
import Derived.Test.YtcmhlfnmjpmjhaaMany
set_option linter.unusedVariables false
set_option linter.unusedSimpArgs false
set_option linter.unnecessarySimpa false
set_option linter.deprecated false
namespace Go.Proofs.Ytcmhlfnmjpmjhaa
open Go.RowKit Go.Shelf

/-- One step. -/
def writeM : Jb → Wst → List Jb → Wst × List Jb
  | .text s, st, rest => (putM s.data.toList st, rest)
  | .line s i f, st, rest => (if f then putM s.data.toList st else wrapM i.toNat st, rest)
  | .hard i, st, rest => (wrapM i.toNat st, rest)
  | .many ks g, st, rest => (manyM ks g st rest, rest ++ (kidsM ks g st rest).reverse)
/-- Its own breaks are not indented below nought, nor too far. -/
def indJ : Jb → Bool
  | .text _ => true
  | .line _ i _ => decide (0 ≤ i ∧ i ≤ 1000000)
  | .hard i => decide (0 ≤ i ∧ i ≤ 1000000)
  | .many _ _ => true
/-- What a write answers. -/
def WriteP (B wb : Nat) (r : Wst × List Jb) (w : World) (e : Ending) (w' : World) : Prop :=
  ∃ v xs, e = .returned v ∧ Hid (Stk B w' v xs ∧ RJX (okS B v w'.heap.size) w' r.2 xs ∧ W51 B wb r.1 w' ∧ Below B w w')

theorem write_same {B wb : Nat} {st st' : Wst} {rest : List Jb} {xs : List Value} {v : Value} {w w1 w2 : World} (hB : B ≤ w.heap.size) (hS : Stk B w v xs) (hR : RJX (okS B v w.heap.size) w rest xs) (hb : Below w.heap.size w w1) (hw : W51 B wb st w)
    (h2 : W51 B wb st' w2 ∧ Below B w1 w2 ∧ Lib.OthersKept 5 (some wb) w1 w2) : WriteP B wb (st', rest) w (.returned v) w2 := by
  have hwt : ∀ b c, w.heap[b]? = some (Obj.cells c 64 (0, 0)) → w2.heap[b]? = some (Obj.cells c 64 (0, 0)) := fun b c e => by
    have e1 := (hb.block b (Array.getElem?_eq_some_iff.1 e).1).trans e
    refine h2.2.2 b _ e1 ?_ (fun c' fz h => by injection h with _ h3 _; cases h3)
    rintro h3
    cases h3
    obtain ⟨_, p, v, _, hbk, _⟩ := hw
    rw [e] at hbk
    injection hbk with hbk
    injection hbk with _ h4 _
    cases h4
  have hb2 : Below B w w2 := (hb.mono hB).trans h2.2.1
  have hs := hb2.size
  exact ⟨v, xs, rfl, hS.block (fun g c _ e => hwt g c e), RJX.map hs (fun k h => ⟨h.1, h.2.1, Nat.lt_of_lt_of_le h.2.2 hs⟩) (fun b c _ e => hwt b c e) hR, h2.1, hb2⟩

set_option maxHeartbeats 2000000 in
set_option maxRecDepth 100000 in
theorem write_text (B wb : Nat) (s : ByteArray) (st : Wst) (rest : List Jb) (v : Value) (xs : List Value) (w : World) (hB : B ≤ w.heap.size) (hW : W51 B wb st w) (hS : Stk B w v xs) (hR : RJX (okS B v w.heap.size) w rest xs)
    (ho : st.out.length ≤ 65536) (hcol : st.col ≤ 65536) (hs : s.size ≤ 1000000) :
    Calls Try.prog 58 #[.agg #[.string s], .pointer (some ⟨wb, 0, none⟩), v] w (WriteP B wb (putM s.data.toList st, rest) w) := by
  have hb : Below w.heap.size w (w.alloc (.cells #[.string s] 75)) := (Below.refl _ w).alloc (Nat.le_refl _) _
  have HP := hide (put_any B wb s st (w.alloc (.cells #[.string s] 75)) (hW.others (by decide) hb) ho hcol hs (Nat.le_trans hB hb.size))
  have HE := hide (fun w2 h2 => write_same (st' := putM s.data.toList st) (w2 := w2) hB hS hR hb hW h2)
  obtain ⟨gS, capS, rfl, _, _, _⟩ := hS.cell
  clear hb hS hR hW
  go_enter Try.func58, Try.ntmps58
  go_wp2_with fail
  refine HP.out.mono ?_
  rintro e w2 ⟨rfl, h2⟩
  have HX := hide (HE.out w2 h2.out)
  clear h2
  go_wp2_with fail
  go_ret
  exact HX.out

set_option maxHeartbeats 2000000 in
set_option maxRecDepth 100000 in
theorem write_line (B wb : Nat) (s : ByteArray) (i : Int) (f : Bool) (st : Wst) (rest : List Jb) (v : Value) (xs : List Value) (w : World) (hB : B ≤ w.heap.size) (hW : W51 B wb st w) (hS : Stk B w v xs) (hR : RJX (okS B v w.heap.size) w rest xs)
    (ho : st.out.length ≤ 65536) (hcol : st.col ≤ 65536) (hs : s.size ≤ 1000000) (hi : 0 ≤ i ∧ i ≤ 1000000) :
    Calls Try.prog 62 #[.agg #[.string s, .int .i64 i, .bool f], .pointer (some ⟨wb, 0, none⟩), v] w (WriteP B wb (if f then putM s.data.toList st else wrapM i.toNat st, rest) w) := by
  obtain ⟨n, rfl⟩ := Int.eq_ofNat_of_zero_le hi.1
  rw [Int.toNat_natCast]
  have hb : Below w.heap.size w (w.alloc (.cells #[.string s, .int .i64 (n : Int), .bool f] 77)) := (Below.refl _ w).alloc (Nat.le_refl _) _
  have HP := hide (put_any B wb s st (w.alloc (.cells #[.string s, .int .i64 (n : Int), .bool f] 77)) (hW.others (by decide) hb) ho hcol hs (Nat.le_trans hB hb.size))
  have HW := hide (wrap_any B wb n st (w.alloc (.cells #[.string s, .int .i64 (n : Int), .bool f] 77)) (hW.others (by decide) hb) ho (by omega) (Nat.le_trans hB hb.size))
  have HE := hide (fun st' w2 h2 => write_same (st' := st') (w2 := w2) hB hS hR hb hW h2)
  obtain ⟨gS, capS, rfl, _, _, _⟩ := hS.cell
  clear hb hS hR hW
  cases f with
  | true =>
    go_enter Try.func62, Try.ntmps62
    go_wp2_with fail
    refine HP.out.mono ?_
    rintro e w2 ⟨rfl, h2⟩
    have HX := hide (HE.out _ w2 h2.out)
    clear h2
    go_wp2_with fail
    go_ret
    exact HX.out
  | false =>
    go_enter Try.func62, Try.ntmps62
    go_wp2_with fail
    refine HW.out.mono ?_
    rintro e w2 ⟨rfl, h2⟩
    have HX := hide (HE.out _ w2 h2.out)
    clear h2
    go_wp2_with fail
    go_ret
    exact HX.out

set_option maxHeartbeats 2000000 in
set_option maxRecDepth 100000 in
theorem write_hard (B wb : Nat) (i : Int) (st : Wst) (rest : List Jb) (v : Value) (xs : List Value) (w : World) (hB : B ≤ w.heap.size) (hW : W51 B wb st w) (hS : Stk B w v xs) (hR : RJX (okS B v w.heap.size) w rest xs)
    (ho : st.out.length ≤ 65536) (hi : 0 ≤ i ∧ i ≤ 1000000) :
    Calls Try.prog 76 #[.agg #[.int .i64 i], .pointer (some ⟨wb, 0, none⟩), v] w (WriteP B wb (wrapM i.toNat st, rest) w) := by
  obtain ⟨n, rfl⟩ := Int.eq_ofNat_of_zero_le hi.1
  rw [Int.toNat_natCast]
  have hb : Below w.heap.size w (w.alloc (.cells #[.int .i64 (n : Int)] 79)) := (Below.refl _ w).alloc (Nat.le_refl _) _
  have HW := hide (wrap_any B wb n st (w.alloc (.cells #[.int .i64 (n : Int)] 79)) (hW.others (by decide) hb) ho (by omega) (Nat.le_trans hB hb.size))
  have HE := hide (fun st' w2 h2 => write_same (st' := st') (w2 := w2) hB hS hR hb hW h2)
  obtain ⟨gS, capS, rfl, _, _, _⟩ := hS.cell
  clear hb hS hR hW
  go_enter Try.func76, Try.ntmps76
  go_wp2_with fail
  refine HW.out.mono ?_
  rintro e w2 ⟨rfl, h2⟩
  have HX := hide (HE.out _ w2 h2.out)
  clear h2
  go_wp2_with fail
  go_ret
  exact HX.out

/-- All kinds of jobs alike. -/
theorem write_any (B wb : Nat) (j : Jb) (st : Wst) (rest : List Jb) (vj v : Value) (xs : List Value) (w : World) (hB : B ≤ w.heap.size) (hW : W51 B wb st w) (hS : Stk B w v xs) (hR : RJX (okS B v w.heap.size) w rest xs) (hJ : RJ (okS B v w.heap.size) w j vj)
    (ho : st.out.length ≤ 65536) (hcol : st.col ≤ 65536) (hf : flJL rest + flJ j ≤ 1000000) (hc : cntJL rest + cntJ j ≤ 1000000) (hwid : st.wid ≤ 9223372036854775807) (hbrk : st.brk ≤ 1000000) (hi : indJ j = true) :
    ∃ (T : TypeId) (K : FuncId) (u : Value), vj = .iface T u ∧ (∀ W, (method 222 T u "tracery/layout.write").run Try.prog W = .ok (K, u) W) ∧ (∀ (x y : Value) W, (callFunc K #[u, x, y]).run Try.prog W = .ok (.enter K #[u, x, y]) W) ∧ (∀ W, (nilAhead 222 T u "tracery/layout.write").run Try.prog W = .ok (some false) W) ∧
      Calls Try.prog K #[u, .pointer (some ⟨wb, 0, none⟩), v] w (WriteP B wb (writeM j st rest) w) := by
  cases j with
  | text s =>
    rw [RJ] at hJ
    rw [flJ] at hf
    obtain ⟨rfl, hs⟩ := hJ
    exact ⟨75, 58, _, rfl, fun _ => by kernel_rfl, fun _ _ _ => by kernel_rfl, fun _ => by kernel_rfl, write_text B wb s st rest v xs w hB hW hS hR ho hcol (by omega)⟩
  | line s i f =>
    rw [RJ] at hJ
    rw [flJ] at hf
    obtain ⟨rfl, hs⟩ := hJ
    exact ⟨77, 62, _, rfl, fun _ => by kernel_rfl, fun _ _ _ => by kernel_rfl, fun _ => by kernel_rfl, write_line B wb s i f st rest v xs w hB hW hS hR ho hcol (by omega) (by simpa [indJ] using hi)⟩
  | hard i =>
    rw [RJ] at hJ
    obtain rfl := hJ
    exact ⟨79, 76, _, rfl, fun _ => by kernel_rfl, fun _ _ _ => by kernel_rfl, fun _ => by kernel_rfl, write_hard B wb i st rest v xs w hB hW hS hR ho (by simpa [indJ] using hi)⟩
  | many ks g =>
    rw [RJ] at hJ
    rw [flJ] at hf
    rw [cntJ] at hc
    obtain ⟨a, c, rfl, h1, h2⟩ := hJ
    exact ⟨81, 79, _, rfl, fun _ => by kernel_rfl, fun _ _ _ => by kernel_rfl, fun _ => by kernel_rfl, write_many B wb ks g st rest a c v xs w hB hW hS hR ⟨h1, h2⟩ hf (by omega) hcol hwid hbrk⟩
end Go.Proofs.Ytcmhlfnmjpmjhaa
