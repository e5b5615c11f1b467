/- The scanner in memory; append in a region that draws. -/
import Derived.Test.YtfngkdcjifdliaaBrack
import Derived.Test.YtfngkdcjifdliaaRuns
import Derived.Deep.RegionLaw
import Derived.Maps.AppendAt
import Derived.Deep.CutBlock
import Derived.Deep.DeepCutAuto
import Derived.BigRegion
set_option linter.unusedVariables false
set_option linter.unusedSimpArgs false
set_option linter.unnecessarySimpa false
set_option linter.deprecated false
namespace Go.Proofs.Ytfngkdcjifdliaa
open Go.RowKit

/-- append to a row of one's own, as one step of a region that draws. -/
theorem step_append_own {P : Program} {ops : Array Oper} {o : Oper} {a : Act} {w : World} {K : Act → World → Prop} {Q : Exit → Act → World → Prop} {E : Prop}
    (hg : o.guard = none) (s x : Operand) (t : TypeId) (hop : o.op = Op.call { callee := Callee.builtin Builtin.append, args := #[s, x], argTypes := #[t, t] })
    (base : Nat) (e : TypeId) (i : TypeInfo) (z : Value) (size bytes : Nat) (ht : P.underlying t = some (.slice e)) (hi : P.info? e = some i) (hz : i.zero = some z)
    (hsize : i.size = size) (hby : i.bytes = bytes) (hzs : z.cells.size = size) (hsz : 0 < size)
    (v : Value) (n : Nat) (xs : List Value) (hs : a.eval s = v) (hown : w.ownsRow base e size v n xs)
    (ad : Addr) (m c : Nat) (news : List Value) (hx : a.eval x = .slice (some ad) m c) (hl : news.length = m * size) (hnews : ∀ j u, news[j]? = some u → w.cell? (ad.add j) = some u) (h1 : ∀ u ∈ news, u.oneCell' = true)
    (h63 : n + m ≤ maxLen) (hbytes : (n + m) * bytes ≤ 140737488355328) (hbase : base ≤ w.heap.size)
    (h : ∀ v' w', w'.ownsRow base e size v' (n + m) (xs ++ news) → w.grownBy w' v.ownBlock → (v' = .slice none 0 0 ↔ v = .slice none 0 0 ∧ m = 0) → (v'.ownBlock = v.ownBlock ∨ v'.ownBlock = some w.heap.size) → K (a.put o.dst v') w') :
    if Region.wanted o (yielded ops a.tmps) = true then Oper.wp P o a w K Q else E := by
  have hw : Region.wanted o (yielded ops a.tmps) = true := by simp [Region.wanted, hg]
  rw [if_pos hw]
  obtain ⟨v', w', hr, h2, h3, h4, h5⟩ := run_append_own_at (P := P) w base t o.type e i z size bytes ht hi hz hsize hby hzs hsz v n xs hown ad m c news hl hnews h1 h63 hbytes hbase
  unfold Oper.wp execOp
  simp only [hop, resolve, invoke, builtin, Sem.run_bind, Sem.run_pure, Result.andThen_ok, List.map_toArray, List.map_cons, List.map_nil, hs, hx, hr]
  exact h _ _ h2 h3 h4 h5
/-- A call of a function by its number, as one step of a region that draws. -/
theorem step_call {P : Program} {ops : Array Oper} {o : Oper} {a : Act} {w : World} {K : Act → World → Prop} {Q : Exit → Act → World → Prop} {E : Prop} {S : Value → World → Prop}
    (hg : o.guard = none) (f : FuncId) (A : Array Operand) (tys : Array TypeId) (hop : o.op = Op.call { callee := Callee.value (.func f), args := A, argTypes := tys }) (vals : Array Value) (hA : A.map a.eval = vals)
    (he : ∀ w, (callFunc f vals).run P w = .ok (.enter f vals) w) (hc : Calls P f vals w fun e w' => ∃ v, e = .returned v ∧ S v w') (hK : ∀ v w', S v w' → K (a.put o.dst v) w') :
    if Region.wanted o (yielded ops a.tmps) = true then Oper.wp P o a w K Q else E := by
  have hw : Region.wanted o (yielded ops a.tmps) = true := by simp [Region.wanted, hg]
  rw [if_pos hw]
  have h1 : (execOp a.eval o).run P w = .ok (.enter f vals) w := by
    unfold execOp
    simp only [hop, resolve, invoke, Sem.run_bind, Sem.run_pure, Result.andThen_ok, hA]
    simp [go_sem, Act.eval, hA, he]
  unfold Oper.wp
  rw [h1]
  show Calls P f vals w _
  refine hc.mono ?_
  rintro e w' ⟨v, rfl, hs⟩
  exact hK v w' hs

theorem own_typed {w : World} {B : Nat} {e : TypeId} {size n : Nat} {v : Value} {xs : List Value} (h : w.ownsRow B e size v n xs) {g : Nat} (hg : v.ownBlock = some g) : B ≤ g ∧ ∃ cur, w.heap[g]? = some (Obj.cells cur e (0, 0)) := by
  rcases h.2 with ⟨rfl, _⟩ | ⟨g', cap, cur, rfl, hB, hh, _⟩
  · cases hg
  · simp only [Value.ownBlock, Option.some.injEq] at hg
    subst hg
    exact ⟨hB, cur, hh⟩

theorem info36 : (Try.prog.info? 36).map (fun i => (i.zero, i.size, i.bytes)) = some (some (.agg #[.int .i64 0, .string ⟨#[]⟩, .slice none 0 0, .int .u64 0, .int .u64 0, .int .u64 0, .int .u64 0, .int .i64 0, .int .i64 0, .int .i64 0, .int .i64 0]), 11, 112) := by kernel_rfl
theorem cells_new (w : World) (l : List Value) (t : TypeId) : ∀ j u, l[j]? = some u → (w.alloc (.cells l.toArray t)).cell? ((⟨w.heap.size, 0, none⟩ : Addr).add j) = some u := by
  intro j u hj
  have h := Blk.cell (Blk.new w l.toArray t) j
  rw [show (⟨w.heap.size, 0, none⟩ : Addr).add j = ⟨w.heap.size, j, none⟩ from by unfold Addr.add; split <;> simp_all, h, ← hj]
  simp
/-- A word. -/
structure Wd where
  kind : Int
  text : ByteArray
  ba : Option Addr
  bn : Nat
  bc : Nat
  set : St
  num : Int
  at_ : Int
  line : Int
  col : Int
def wdL (x : Wd) : List Value := [.int .i64 x.kind, .string x.text, .slice x.ba x.bn x.bc, .int .u64 (x.set.w0 : Int), .int .u64 (x.set.w1 : Int), .int .u64 (x.set.w2 : Int), .int .u64 (x.set.w3 : Int), .int .i64 x.num, .int .i64 x.at_, .int .i64 x.line, .int .i64 x.col]
def wdsC (l : List Wd) : List Value := l.flatMap wdL
theorem wdsC_snoc (l : List Wd) (x : Wd) : wdsC (l ++ [x]) = wdsC l ++ wdL x := by unfold wdsC; rw [List.flatMap_append]; simp
/-- The scanner in memory. -/
structure ScW (B sb : Nat) (text : ByteArray) (p line top : Int) (ws : List Wd) (v : Value) (w : World) : Prop where
  b : Blk w sb #[.string text, .int .i64 p, .int .i64 line, .int .i64 top, v] 41
  own : w.ownsRow B 36 11 v ws.length (wdsC ws)
/-- What the scanner's methods write. -/
def ScP (B sb : Nat) (k : Nat) (t : TypeId) : Prop := k = sb ∧ t = 41 ∨ t = 36 ∧ B ≤ k
theorem ScW.at_ {B sb : Nat} {text : ByteArray} {p line top : Int} {ws : List Wd} {v : Value} {w : World} (h : ScW B sb text p line top ws v w) (p' : Int) : ScW B sb text p' line top ws v (w.setCell ⟨sb, 1, none⟩ (.int .i64 p')) ∧ Wrote (ScP B sb) w (w.setCell ⟨sb, 1, none⟩ (.int .i64 p')) :=
  ⟨⟨h.b.set 1 _, own_set h.own h.b (by decide)⟩, Wrote.set _ _ h.b (show ScP B sb sb 41 from Or.inl ⟨rfl, rfl⟩)⟩
end Go.Proofs.Ytfngkdcjifdliaa
