/- Rows of one's own: appended to one another; bytes in a buffer. -/
import Derived.Test.YtcmhlfnmjpmjhaaMem
import Derived.Laws.AppendOwnNone
import Derived.Laws.OwnMore
import Derived.Lib.BufSteps
import Derived.Laws.IdiomStrings
import Derived.Shelf.Bytes.SlSmallAll
set_option linter.unusedVariables false
set_option linter.unusedSimpArgs false
set_option linter.unnecessarySimpa false
set_option linter.deprecated false
namespace Go.Proofs.Ytcmhlfnmjpmjhaa
open Go.RowKit

theorem info5 : (Try.prog.info? 5).map (fun i => (i.zero, i.size, i.bytes)) = some (some (.int .u8 0), 1, 1) := by kernel_rfl
theorem info24 : (Try.prog.info? 24).map (fun i => (i.zero, i.size, i.bytes)) = some (some (.agg #[.int .i64 0, .string ⟨#[]⟩, .int .i64 0, .slice none 0 0]), 4, 56) := by kernel_rfl

theorem own_below {w w' : World} {B : Nat} {e : TypeId} {size n : Nat} {v : Value} {xs : List Value} (h : w.ownsRow B e size v n xs) (hb : Below w.heap.size w w') : w'.ownsRow B e size v n xs := by
  refine ⟨h.1, ?_⟩
  rcases h.2 with h2 | ⟨g, cap, cur, e1, e2, e3, e4⟩
  · exact .inl h2
  · exact .inr ⟨g, cap, cur, e1, e2, (hb.block g (Array.getElem?_eq_some_iff.1 e3).1).trans e3, e4⟩
theorem own_base {w : World} {B B' : Nat} {e : TypeId} {size n : Nat} {v : Value} {xs : List Value} (h : w.ownsRow B e size v n xs) (hB : B' ≤ B) : w.ownsRow B' e size v n xs := by
  refine ⟨h.1, ?_⟩
  rcases h.2 with h2 | ⟨g, cap, cur, e1, e2, e3⟩
  · exact .inl h2
  · exact .inr ⟨g, cap, cur, e1, by omega, e3⟩
theorem own_at {w : World} {B n size : Nat} {e : TypeId} {v : Value} {xs : List Value} (h : w.ownsRow B e size v n xs) (hn : n ≠ 0) : ∃ g cap, v = .slice (some ⟨g, 0, none⟩) n cap ∧ B ≤ g ∧ g < w.heap.size ∧ n ≤ cap ∧ (∀ j u, xs[j]? = some u → w.cell? ⟨g, j, none⟩ = some u) := by
  rcases h.2 with ⟨_, h0⟩ | ⟨g, cap, cur, rfl, hB, hh, hc, hm, hs, ht⟩
  · exact absurd h0 hn
  · refine ⟨g, cap, rfl, hB, (Array.getElem?_eq_some_iff.1 hh).1, hc, fun j u hj => ?_⟩
    have hj2 : j < n * size := by rw [← h.1]; exact (List.getElem?_eq_some_iff.1 hj).1
    rw [cell_of_row w g j cur e (0, 0) hh, ← hj, ← ht, List.getElem?_take, if_pos hj2]
    simp
theorem own_shape {w : World} {B n size : Nat} {e : TypeId} {v : Value} {xs : List Value} (h : w.ownsRow B e size v n xs) : ∃ a cap, v = .slice a n cap ∧ (n ≠ 0 → ∃ g, a = some ⟨g, 0, none⟩ ∧ B ≤ g ∧ g < w.heap.size ∧ ∀ j u, xs[j]? = some u → w.cell? ⟨g, j, none⟩ = some u) := by
  by_cases hn : n = 0
  · subst hn
    rcases h.2 with ⟨e1, _⟩ | ⟨g, cap, cur, rfl, _⟩
    · exact ⟨none, 0, e1, fun h => absurd rfl h⟩
    · exact ⟨_, cap, rfl, fun h => absurd rfl h⟩
  · obtain ⟨g, cap, rfl, h1, h2, _, h3⟩ := own_at h hn
    exact ⟨_, cap, rfl, fun _ => ⟨g, rfl, h1, h2, h3⟩⟩

/-- append of a row of one's own to another, whatever both hold. -/
theorem wpList_append_rows {P : Program} {w : World} {ops : Array Oper} {rest : List Oper} {o : Oper} {a : Act} {Q : Exit → Act → World → Prop} (hgd : o.guard = none) (s x : Operand) (t : TypeId)
    (ho : o.op = .call { callee := .builtin .append, args := #[s, x], argTypes := #[t, t] })
    (base : Nat) (e : TypeId) (i : TypeInfo) (z : Value) (size bytes : Nat) (ht : P.underlying t = some (.slice e)) (hi : P.info? e = some i) (hz : i.zero = some z)
    (hsize : i.size = size) (hby : i.bytes = bytes) (hzs : z.cells.size = size) (hsz : 0 < size)
    (v : Value) (n : Nat) (xs : List Value) (hs : a.eval s = v) (hown : w.ownsRow base e size v n xs)
    (bx : Nat) (vx : Value) (m : Nat) (news : List Value) (hx : a.eval x = vx) (hox : w.ownsRow bx e size vx m news) (h1 : ∀ u ∈ news, u.oneCell' = true)
    (h63 : n + m ≤ maxLen) (hbytes : (n + m) * bytes ≤ 140737488355328) (hbase : base ≤ w.heap.size)
    (h : ∀ v' w', w'.ownsRow base e size v' (n + m) (xs ++ news) → w.grownBy w' v.ownBlock → wpList P ops Q rest (a.put o.dst v') w') : wpList P ops Q (o :: rest) a w := by
  rcases hox.2 with ⟨rfl, rfl⟩ | ⟨g, cap, cur, rfl, hB, hh, hc, hm, hcs, htk⟩
  · have hn : news = [] := List.eq_nil_of_length_eq_zero (by simpa using hox.1)
    subst hn
    refine wpList_append_own_none hgd s x t ho base e i size ht hi v n xs hs hown hx (h v w ?_ (World.grownBy.refl _ _))
    rw [List.append_nil, Nat.add_zero]; exact hown
  · refine wpList_append_own w hgd s x t ho base e i z size bytes ht hi hz hsize hby hzs hsz v n xs hs hown ⟨g, 0, none⟩ m cap news hx hox.1 (fun j u hj => ?_) h1 h63 hbytes hbase (fun v' w' a1 a2 _ => h v' w' a1 a2)
    have hj2 : j < m * size := by rw [← hox.1]; exact (List.getElem?_eq_some_iff.1 hj).1
    rw [Addr.add_lit, Nat.zero_add, cell_of_row w g j cur e (0, 0) hh, ← hj, ← htk, List.getElem?_take, if_pos hj2]
    simp

/-- The buffer holds bytes. -/
structure Buf (w : World) (v : Value) (acc : List UInt8) (wr : World) : Prop where
  own : wr.ownsRow w.heap.size 5 1 v acc.length (Lib.byteCells acc)
  below : Below w.heap.size w wr
theorem Buf.push {w wr w2 : World} {v v' : Value} {acc nb : List UInt8} (h : Buf w v acc wr) {w1 : World} (h1 : Below wr.heap.size wr w1)
    (ho : w2.ownsRow w.heap.size 5 1 v' (acc.length + nb.length) (Lib.byteCells acc ++ Lib.byteCells nb)) (hg : w1.grownBy w2 v.ownBlock) : Buf w v' (acc ++ nb) w2 := by
  have hb := h.below.trans (h1.mono h.below.size)
  refine ⟨?_, ?_⟩
  · rw [List.length_append, Lib.byteCells_append]
    exact ho
  · refine hb.grown hg hb.size fun k hk => ?_
    rcases h.own.2 with ⟨rfl, _⟩ | ⟨g, cap, cur, rfl, hB, _⟩
    · simp [Value.ownBlock] at hk
    · simp only [Value.ownBlock, Option.some.injEq] at hk
      omega
/-- One byte more. -/
theorem Buf.push1 {w wr w2 : World} {v v' : Value} {acc : List UInt8} (h : Buf w v acc wr) (x : UInt8) {o : Obj} {m : Nat} {vx : Value}
    (ho : w2.ownsRow w.heap.size 5 1 v' m (Lib.byteCells acc ++ [vx])) (hg : (wr.alloc o).grownBy w2 v.ownBlock) (hm : m = acc.length + 1) (hvx : vx = .int .u8 (x.toNat : Int)) : Buf w v' (acc ++ [x]) w2 := by
  subst hm hvx
  exact h.push (nb := [x]) ((Below.refl _ _).alloc (Nat.le_refl _) _) ho hg
theorem Buf.start (w : World) : Buf w (.slice none 0 0) [] w := ⟨World.ownsRow_nil _ _ _ _, Below.refl _ _⟩
theorem Buf.shape {w wr : World} {v : Value} {acc : List UInt8} (h : Buf w v acc wr) : ∃ a cap, v = .slice a acc.length cap ∧ (acc ≠ [] → ∃ g, a = some ⟨g, 0, none⟩ ∧ w.heap.size ≤ g ∧ g < wr.heap.size ∧ ∀ j u, (Lib.byteCells acc)[j]? = some u → wr.cell? ⟨g, j, none⟩ = some u) := by
  obtain ⟨a, cap, e, h2⟩ := own_shape h.own
  exact ⟨a, cap, e, fun hn => h2 (by simpa using hn)⟩
theorem cell_one_new (w : World) (u : Value) (t : TypeId) : ∀ j x, [u][j]? = some x → (w.alloc (.cells #[u] t)).cell? ((⟨w.heap.size, 0, none⟩ : Addr).add j) = some x := by
  intro j x hj
  match j with
  | 0 =>
    obtain rfl : u = x := by simpa using hj
    have h := Blk.cell (Blk.new w #[u] t) 0
    rw [add_mk, h]; rfl
  | j + 1 => simp at hj

theorem byte_ne {c x : UInt8} (h : c ≠ x) : ((c.toNat : Int) == (x.toNat : Int)) = false := by
  rw [beq_eq_false_iff_ne]
  intro e
  exact h (UInt8.toNat_inj.1 (by omega))
theorem Buf.str {w wr : World} {a : Option Addr} {n c : Nat} {acc : List UInt8} (h : Buf w (.slice a n c) acc wr) : n = acc.length ∧ (convert 36 9 (.slice a n c)).run Try.prog wr = .ok (.string ⟨acc.toArray⟩) wr := by
  obtain ⟨a', cap, e, hc⟩ := h.shape
  injection e with e1 e2 e3
  subst e1 e2 e3
  refine ⟨rfl, ?_⟩
  by_cases h0 : acc = []
  · subst h0
    exact run_convert_bytes_zero wr 36 5 Try.underlying36 Try.underlying5 a c 9 Try.underlying9
  · obtain ⟨g, rfl, _, _, hr⟩ := hc h0
    refine run_convert_bytes_back wr 36 9 5 ⟨g, 0, none⟩ c acc Try.underlying36 Try.underlying5 Try.underlying9 fun j hj => ?_
    rw [add_mk, Nat.zero_add]
    refine hr j _ ?_
    unfold Lib.byteCells
    rw [List.getElem?_map, List.getElem?_eq_getElem hj]
    rfl
theorem size_len (s : ByteArray) : s.data.toList.length = s.size := by simp
theorem drop_byte (s : ByteArray) (k : Nat) (h : k < s.size) : s.data.toList.drop k = s[k]'h :: s.data.toList.drop (k + 1) := by
  rw [List.drop_eq_getElem_cons (by simpa using h)]
  simp
  rfl
end Go.Proofs.Ytcmhlfnmjpmjhaa
