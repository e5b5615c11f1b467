/- The walk of jobOf: a document as a job, in memory of the call's own. -/
import Derived.Test.YtcmhlfnmjpmjhaaJob
import Derived.Deep.RegionLaw
import Derived.Maps.AppendAt
import Derived.Deep.CutBlock
import Derived.Deep.DeepCutAuto
set_option linter.unusedVariables false
set_option linter.unusedSimpArgs false
set_option linter.unnecessarySimpa false
set_option linter.deprecated false
namespace Go.Proofs.Ytcmhlfnmjpmjhaa
open Go.RowKit

/-- append to a row of one's own, as one step of a region that draws. -/
theorem step_append_own {P : Program} {ops : Array Oper} {o : Oper} {a : Act} {w : World} {K : Act → World → Prop} {Q : Exit → Act → World → Prop} {E : Prop}
    (hg : o.guard = none) (s x : Operand) (t : TypeId) (hop : o.op = Op.call { callee := Callee.builtin Builtin.append, args := #[s, x], argTypes := #[t, t] })
    (base : Nat) (e : TypeId) (i : TypeInfo) (z : Value) (size bytes : Nat) (ht : P.underlying t = some (.slice e)) (hi : P.info? e = some i) (hz : i.zero = some z)
    (hsize : i.size = size) (hby : i.bytes = bytes) (hzs : z.cells.size = size) (hsz : 0 < size)
    (v : Value) (n : Nat) (xs : List Value) (hs : a.eval s = v) (hown : w.ownsRow base e size v n xs)
    (ad : Addr) (m c : Nat) (news : List Value) (hx : a.eval x = .slice (some ad) m c) (hl : news.length = m * size) (hnews : ∀ j u, news[j]? = some u → w.cell? (ad.add j) = some u) (h1 : ∀ u ∈ news, u.oneCell' = true)
    (h63 : n + m ≤ maxLen) (hbytes : (n + m) * bytes ≤ 140737488355328) (hbase : base ≤ w.heap.size)
    (h : ∀ v' w', w'.ownsRow base e size v' (n + m) (xs ++ news) → w.grownBy w' v.ownBlock → (v' = .slice none 0 0 ↔ v = .slice none 0 0 ∧ m = 0) → (v'.ownBlock = v.ownBlock ∨ v'.ownBlock = some w.heap.size) → K (a.put o.dst v') w') :
    if Region.wanted o (yielded ops a.tmps) = true then Oper.wp P o a w K Q else E := by
  have hw : Region.wanted o (yielded ops a.tmps) = true := by simp [Region.wanted, hg]
  rw [if_pos hw]
  obtain ⟨v', w', hr, h2, h3, h4, h5⟩ := run_append_own_at (P := P) w base t o.type e i z size bytes ht hi hz hsize hby hzs hsz v n xs hown ad m c news hl hnews h1 h63 hbytes hbase
  unfold Oper.wp execOp
  simp only [hop, resolve, invoke, builtin, Sem.run_bind, Sem.run_pure, Result.andThen_ok, List.map_toArray, List.map_cons, List.map_nil, hs, hx, hr]
  exact h _ _ h2 h3 h4 h5
/-- A call of a function by its number, as one step of a region that draws. -/
theorem step_call {P : Program} {ops : Array Oper} {o : Oper} {a : Act} {w : World} {K : Act → World → Prop} {Q : Exit → Act → World → Prop} {E : Prop} {S : Value → World → Prop}
    (hg : o.guard = none) (f : FuncId) (A : Array Operand) (tys : Array TypeId) (hop : o.op = Op.call { callee := Callee.value (.func f), args := A, argTypes := tys }) (vals : Array Value) (hA : A.map a.eval = vals)
    (he : ∀ w, (callFunc f vals).run P w = .ok (.enter f vals) w) (hc : Calls P f vals w fun e w' => ∃ v, e = .returned v ∧ S v w') (hK : ∀ v w', S v w' → K (a.put o.dst v) w') :
    if Region.wanted o (yielded ops a.tmps) = true then Oper.wp P o a w K Q else E := by
  have hw : Region.wanted o (yielded ops a.tmps) = true := by simp [Region.wanted, hg]
  rw [if_pos hw]
  have h1 : (execOp a.eval o).run P w = .ok (.enter f vals) w := by
    unfold execOp
    simp only [hop, resolve, invoke, Sem.run_bind, Sem.run_pure, Result.andThen_ok, hA]
    simp [go_sem, Act.eval, hA, he]
  unfold Oper.wp
  rw [h1]
  show Calls P f vals w _
  refine hc.mono ?_
  rintro e w' ⟨v, rfl, hs⟩
  exact hK v w' hs

theorem info64 : (Try.prog.info? 64).map (fun i => (i.zero, i.size, i.bytes)) = some (some .nilIface, 1, 16) := by kernel_rfl

/-- Values that read as jobs. -/
def RJX (ok : Nat → Prop) (w : World) : List Jb → List Value → Prop
  | [], xs => xs = []
  | j :: js, xs => ∃ v ys, xs = v :: ys ∧ RJ ok w j v ∧ RJX ok w js ys
theorem RJX.map {ok ok' : Nat → Prop} {w w' : World} (hs : w.heap.size ≤ w'.heap.size) (ho : ∀ k, ok k → ok' k) (hk : ∀ b c, ok b → w.heap[b]? = some (Obj.cells c 64 (0, 0)) → w'.heap[b]? = some (Obj.cells c 64 (0, 0))) : ∀ {js : List Jb} {xs : List Value}, RJX ok w js xs → RJX ok' w' js xs
  | [], _, h => h
  | j :: js, xs, h => by
    obtain ⟨v, ys, e, h1, h2⟩ := h
    exact ⟨v, ys, e, RJ.map hs ho hk h1, RJX.map hs ho hk h2⟩
theorem RJX.snoc {ok : Nat → Prop} {w : World} {j : Jb} {v : Value} (hj : RJ ok w j v) : ∀ {js : List Jb} {xs : List Value}, RJX ok w js xs → RJX ok w (js ++ [j]) (xs ++ [v])
  | [], xs, h => by
    have : xs = [] := h
    subst this
    exact ⟨v, [], rfl, hj, rfl⟩
  | i :: js, xs, h => by
    obtain ⟨u, ys, rfl, h1, h2⟩ := h
    exact ⟨u, _, rfl, h1, RJX.snoc hj h2⟩
theorem RJX.get {ok : Nat → Prop} {w : World} : ∀ {js : List Jb} {xs : List Value}, RJX ok w js xs → ∀ i (hi : i < js.length), ∃ v, xs[i]? = some v ∧ RJ ok w js[i] v
  | [], xs, h, i, hi => by simp at hi
  | j :: js, xs, h, 0, _ => by
    obtain ⟨v, ys, rfl, h1, _⟩ := h
    exact ⟨v, rfl, h1⟩
  | j :: js, xs, h, i + 1, hi => by
    obtain ⟨v, ys, rfl, _, h2⟩ := h
    have := RJX.get h2 i (by simpa using hi)
    simpa using this
theorem RJX.len {ok : Nat → Prop} {w : World} : ∀ {js : List Jb} {xs : List Value}, RJX ok w js xs → xs.length = js.length
  | [], xs, h => by have : xs = [] := h; subst this; rfl
  | j :: js, xs, h => by
    obtain ⟨v, ys, rfl, _, h2⟩ := h
    simp [RJX.len h2]
theorem own_typed {w : World} {B : Nat} {e : TypeId} {size n : Nat} {v : Value} {xs : List Value} (h : w.ownsRow B e size v n xs) {g : Nat} (hg : v.ownBlock = some g) : B ≤ g ∧ ∃ cur, w.heap[g]? = some (Obj.cells cur e (0, 0)) := by
  rcases h.2 with ⟨rfl, _⟩ | ⟨g', cap, cur, rfl, hB, hh, _⟩
  · cases hg
  · simp only [Value.ownBlock, Option.some.injEq] at hg
    subst hg
    exact ⟨hB, cur, hh⟩
theorem own_turn {w w' : World} {B : Nat} {e : TypeId} {size n : Nat} {v : Value} {xs : List Value} (h : w.ownsRow B e size v n xs) (hk : ∀ k c, B ≤ k → w.heap[k]? = some (.cells c e (0, 0)) → w'.heap[k]? = some (.cells c e (0, 0))) : w'.ownsRow B e size v n xs := by
  refine ⟨h.1, ?_⟩
  rcases h.2 with h2 | ⟨g, cap, cur, e1, e2, e3, e4⟩
  · exact .inl h2
  · exact .inr ⟨g, cap, cur, e1, e2, hk g cur e2 e3, e4⟩
theorem own_below {w w' : World} {B : Nat} {e : TypeId} {size n : Nat} {v : Value} {xs : List Value} (h : w.ownsRow B e size v n xs) (hb : Below w.heap.size w w') : w'.ownsRow B e size v n xs :=
  own_turn h (fun k c _ e => (hb.block k (Array.getElem?_eq_some_iff.1 e).1).trans e)
/-- A row of one's own that reads as jobs reads as a slice of jobs. -/
theorem RJX.slice {ok : Nat → Prop} {w : World} {B n : Nat} {js : List Jb} {v : Value} {xs : List Value} (ho : w.ownsRow B 64 1 v n xs) (hr : RJX ok w js xs) (hb : n ≤ 140737488351232) {ok' : Nat → Prop} (hok : ∀ k, ok k → ok' k) (hown : ∀ g, v.ownBlock = some g → ok' g) :
    ∃ a c, v = .slice a n c ∧ n = js.length ∧ RJK ok' w a js := by
  have hlen : n = js.length := by have h1 := ho.1; have h2 := hr.len; omega
  rcases ho.2 with ⟨rfl, h0⟩ | ⟨g, cap, cur, rfl, hB, hh, hn, _, hsz, htk⟩
  · refine ⟨none, 0, by rw [h0], hlen, by omega, fun hne => ?_⟩
    exact absurd (List.eq_nil_of_length_eq_zero (by omega)) hne
  · refine ⟨_, cap, rfl, hlen, by omega, fun hne => ⟨g, 0, rfl, hown g rfl, ⟨cur, hh⟩, RJs.of fun i hi => ?_⟩⟩
    obtain ⟨u, hu, hj⟩ := hr.get i hi
    refine ⟨u, ?_, hj.weak hok⟩
    rw [Nat.zero_add, Blk.cell (t := 64) hh i, ← Array.getElem?_toList, ← hu, ← htk]
    rw [List.getElem?_take_of_lt (by omega)]

mutual
/-- Is no nesting too far? -/
def wellB : Dc → Bool
  | .mk k t n ks => wellL ks && (decide (k ≠ 4) || (decide (0 ≤ n) && decide (n ≤ 1000)))
def wellL : List Dc → Bool
  | [] => true
  | x :: xs => wellB x && wellL xs
end
mutual
/-- A document as a job. -/
def jobOf : Dc → Int → Jb
  | .mk k t n ks, ind => if k = 1 then .text t else if k = 2 then .line t ind false else if k = 3 then .hard ind else .many (jobsOf ks (if k = 4 then ind + n else ind)) (k == 5)
def jobsOf : List Dc → Int → List Jb
  | [], _ => []
  | x :: xs, ind => jobOf x ind :: jobsOf xs ind
end
theorem jobsOf_len (ks : List Dc) (i : Int) : (jobsOf ks i).length = ks.length := by
  induction ks with
  | nil => rw [jobsOf]; rfl
  | cons x xs ih => rw [jobsOf, List.length_cons, List.length_cons, ih]
theorem jobsOf_append (a b : List Dc) (i : Int) : jobsOf (a ++ b) i = jobsOf a i ++ jobsOf b i := by
  induction a with
  | nil => rw [jobsOf]; rfl
  | cons x xs ih => rw [List.cons_append, jobsOf, jobsOf, ih]; rfl
theorem jobsOf_snoc (ks : List Dc) (i : Int) (k : Nat) (h : k < ks.length) : jobsOf (ks.take (k + 1)) i = jobsOf (ks.take k) i ++ [jobOf ks[k] i] := by
  rw [List.take_succ_eq_append_getElem h, jobsOf_append]
  congr 1
theorem wellL_mem {x : Dc} : ∀ {ks : List Dc}, wellL ks = true → x ∈ ks → wellB x = true
  | [], _, h => by cases h
  | y :: ys, hw, h => by
    rw [wellL, Bool.and_eq_true] at hw
    rcases List.mem_cons.1 h with rfl | h
    · exact hw.1
    · exact wellL_mem hw.2 h
theorem depL_mem {x : Dc} : ∀ {ks : List Dc}, x ∈ ks → dep x ≤ depL ks
  | [], h => by cases h
  | y :: ys, h => by
    rw [depL]
    rcases List.mem_cons.1 h with rfl | h
    · omega
    · have := depL_mem h; omega

/-- What jobOf answers. -/
def JobP (j : Jb) (w : World) (e : Ending) (w' : World) : Prop := ∃ vj, e = .returned vj ∧ Hid (RJ (fun k => w.heap.size ≤ k ∧ k < w'.heap.size) w' j vj) ∧ Hid (Below w.heap.size w w')
def JobOk (d : Dc) : Prop := wellB d = true → cnt d ≤ 1000000 → ∀ (ind : Int), 0 ≤ ind → ind + 1000 * (dep d : Int) ≤ 1000000 → ∀ (v : Value) (w : World), RD w d v → Calls Try.prog 28 #[v, .int .i64 ind] w (JobP (jobOf d ind) w)
structure JoRel (w : World) (ks : List Dc) (ind : Int) (g : Bool) (k : Nat) (wr : World) : Prop where
  below : Below w.heap.size w wr
  ex : ∃ v xs, Blk wr (w.heap.size + 1) #[v, .bool g] 81 ∧ wr.ownsRow (w.heap.size + 2) 64 1 v k xs ∧ RJX (fun b => (w.heap.size + 2 ≤ b ∧ some b ≠ v.ownBlock) ∧ b < wr.heap.size) wr (jobsOf (ks.take k) ind) xs
  size : w.heap.size + 2 ≤ wr.heap.size
  le : k ≤ ks.length
theorem jo_new {wr w3 : World} {o : Obj} (h : Below (wr.alloc o).drew.heap.size (wr.alloc o).drew w3) : Below wr.heap.size wr w3 ∧ wr.heap.size + 1 ≤ w3.heap.size := by
  have h2 : (wr.alloc o).drew.heap.size = wr.heap.size + 1 := by show (wr.alloc o).heap.size = _; simp
  have h3 := h.size
  exact ⟨(Below.drew ((Below.refl _ wr).alloc (Nat.le_refl _) o)).trans (h.mono (by omega)), by omega⟩
theorem jo_step {w wr w3 w4 : World} {ks : List Dc} {ind : Int} {g : Bool} {k : Nat} {o : Obj} {vk v' : Value} {T : TypeId} {u : Value} {xs : List Value} (h : JoRel w ks ind g k wr) (hlt : k < ks.length)
    (hm : Blk wr (w.heap.size + 1) #[vk, .bool g] 81) (hown : wr.ownsRow (w.heap.size + 2) 64 1 vk k xs) (hrx : RJX (fun b => (w.heap.size + 2 ≤ b ∧ some b ≠ vk.ownBlock) ∧ b < wr.heap.size) wr (jobsOf (ks.take k) ind) xs)
    (h3 : Below (wr.alloc o).drew.heap.size (wr.alloc o).drew w3) (hj : RJ (fun b => (wr.alloc o).drew.heap.size ≤ b ∧ b < w3.heap.size) w3 (jobOf ks[k] ind) (.iface T u))
    (hg : (w3.alloc (.cells #[.iface T u] 64)).grownBy w4 vk.ownBlock) (ho : w4.ownsRow (w.heap.size + 2) 64 1 v' (k + 1) (xs ++ [.iface T u])) (hat : v'.ownBlock = vk.ownBlock ∨ v'.ownBlock = some (w3.alloc (.cells #[.iface T u] 64)).heap.size) :
    JoRel w ks ind g (k + 1) (w4.setCell ⟨w.heap.size + 1, 0, none⟩ v') := by
  obtain ⟨b3, s3⟩ := jo_new h3
  have hs := h.size
  have sa : (w3.alloc (.cells #[.iface T u] 64)).heap.size = w3.heap.size + 1 := World.size_alloc _ _
  have s4 := hg.size
  have sw : (wr.alloc o).drew.heap.size = wr.heap.size + 1 := by show (wr.alloc o).heap.size = _; simp
  have hrow : ∀ j, vk.ownBlock = some j → w.heap.size + 2 ≤ j ∧ j < wr.heap.size := fun j hj => by
    obtain ⟨h1, cur, h2⟩ := own_typed hown hj
    exact ⟨h1, (Array.getElem?_eq_some_iff.1 h2).1⟩
  have hba : Below w3.heap.size w3 (w3.alloc (.cells #[.iface T u] 64)) := (Below.refl _ w3).alloc (Nat.le_refl _) _
  have hcell : ∀ b v, b ≠ w.heap.size + 1 → some b ≠ vk.ownBlock → b < w3.heap.size → w3.heap[b]? = some v → (w4.setCell ⟨w.heap.size + 1, 0, none⟩ v').heap[b]? = some v := fun b v h1 h2 h3 e =>
    ((Below.heap_setCell _ _ _ _ h1).trans ((hg.block b (by omega) h2).trans (hba.block b h3))).trans e
  have hmb : Blk w4 (w.heap.size + 1) #[vk, .bool g] 81 := ((hm.below b3).alloc _).grown hg (fun e => by have := hrow _ e.symm; omega)
  have hb4 : Below w.heap.size w w4 := (h.below.trans ((b3.trans (hba.mono b3.size)).mono h.below.size)).grown hg (by have := h.below.size; omega) (fun j hj => by have := hrow j hj; omega)
  have hnb : ∀ g', v'.ownBlock = some g' → vk.ownBlock = some g' ∨ g' = w3.heap.size + 1 := fun g' e => by
    rcases hat with h1 | h1
    · exact .inl (h1 ▸ e)
    · right; rw [h1] at e; injection e with e; omega
  refine ⟨hb4.setCell (by show w.heap.size ≤ w.heap.size + 1; omega) _, ⟨v', _, ?_, own_turn ho (fun c x hc e => (Below.heap_setCell _ _ _ _ (by show c ≠ w.heap.size + 1; omega)).trans e), ?_⟩, by rw [size_setCell]; omega, hlt⟩
  · unfold Blk at hmb ⊢
    simp only [World.setCell, Array.getElem?_modify, hmb]
    simp
  · rw [jobsOf_snoc _ _ _ hlt]
    refine RJX.snoc (RJ.map (by rw [size_setCell]; omega) (fun b hb => ⟨⟨by omega, fun e => ?_⟩, by rw [size_setCell]; omega⟩) (fun b c hb e => hcell b _ (by omega) (fun e2 => by have := hrow _ e2.symm; omega) hb.2 e) hj)
      (RJX.map (by rw [size_setCell]; omega) (fun b hb => ⟨⟨hb.1.1, fun e => ?_⟩, by rw [size_setCell]; omega⟩) (fun b c hb e => hcell b _ (by omega) hb.1.2 (by omega) ((b3.block b hb.2).trans e)) hrx)
    · rcases hnb b e.symm with h1 | h1
      · have := hrow _ h1; omega
      · omega
    · rcases hnb b e.symm with h1 | h1
      · exact hb.1.2 h1.symm
      · omega

theorem ret28 {R : Ending → World → Prop} {a : Act} {W : World} {v : Value} (h4 : (a.tmps[4]?).getD undef = v) (hd : a.defers = []) (hR : R (.returned v) W) : bodyPost Try.prog Try.f28 R .ret a W :=
  bodyPost_ret (v := v) (by simp [results, Try.results28, h4, go_sem]) hd hR

set_option maxHeartbeats 4000000 in
set_option maxRecDepth 100000 in
theorem jobOf_any : ∀ d, JobOk d := by
  refine Dc.induct fun kd tx nn ks ih => ?_
  intro hw hcnt ind hi0 hi1 v w hT
  obtain ⟨a2, c2, rfl, hkd, htx, hnn, hks⟩ := hT.open
  simp only [Dc.kind, Dc.text, Dc.num, Dc.kids] at hks htx hkd hnn ⊢
  rw [cnt] at hcnt
  rw [dep] at hi1
  have hkl := len_cntL ks
  rw [wellB] at hw
  rw [Bool.and_eq_true] at hw
  have hw1 : wellL ks = true := hw.1
  have hw4 : kd = 4 → 0 ≤ nn ∧ nn ≤ 1000 := fun h => by
    subst h
    simpa using hw.2
  have HW := hide hw1
  have hK1 := hks.1
  have HK := hide hks
  have HI := hide ih
  have HC := hide hcnt
  have HI1 := hide hi1
  have hB0 : Below w.heap.size w (w.alloc (.cells #[.int .i64 kd, .string tx, .int .i64 nn, .slice a2 ks.length c2] 24)) := (Below.refl _ w).alloc (Nat.le_refl _) _
  have HB0 := hide hB0
  clear hks ih hT hw hw1 hB0
  by_cases k1 : kd = 1
  · subst k1
    have HJ := hide (show jobOf (.mk 1 tx nn ks) ind = .text tx by rw [jobOf]; simp)
    rw [HJ.out]
    clear hw4 hi1
    go_enter Try.func28, Try.ntmps28
    go_wp2_with fail
    exact ret28 rfl rfl ⟨_, rfl, by show RJ _ _ _ _; rw [RJ]; exact ⟨rfl, htx⟩, HB0.out⟩
  by_cases k2 : kd = 2
  · subst k2
    have HJ := hide (show jobOf (.mk 2 tx nn ks) ind = .line tx ind false by rw [jobOf]; simp)
    rw [HJ.out]
    clear hw4 hi1
    go_enter Try.func28, Try.ntmps28
    go_wp2_with fail
    exact ret28 rfl rfl ⟨_, rfl, by show RJ _ _ _ _; rw [RJ]; exact ⟨rfl, htx⟩, HB0.out⟩
  by_cases k3 : kd = 3
  · subst k3
    have HJ := hide (show jobOf (.mk 3 tx nn ks) ind = .hard ind by rw [jobOf]; simp)
    rw [HJ.out]
    clear hw4 hi1
    go_enter Try.func28, Try.ntmps28
    go_wp2_with fail
    exact ret28 (v := .iface 79 (.agg #[.int .i64 ind])) rfl rfl ⟨_, rfl, by show RJ _ _ _ _; rw [RJ], HB0.out⟩
  have hk1 : (kd == 1) = false := by simp [k1]
  have hk2 : (kd == 2) = false := by simp [k2]
  have hk3 : (kd == 3) = false := by simp [k3]
  obtain ⟨J, hJ⟩ : ∃ J, (if kd = 4 then ind + nn else ind) = J := ⟨_, rfl⟩
  have hJ0 : 0 ≤ J ∧ J + 1000 * (depL ks : Int) ≤ 1000000 := by
    rw [← hJ]
    split
    · rename_i h; have := hw4 h; omega
    · omega
  have HJ := hide (show jobOf (.mk kd tx nn ks) ind = .many (jobsOf ks J) (kd == 5) by rw [jobOf, if_neg k1, if_neg k2, if_neg k3, hJ])
  rw [HJ.out]
  have HJ0 := hide hJ0
  clear hJ0
  obtain ⟨i0, hi, hz0, hz1, hz2⟩ := info_parts info64
  by_cases k4 : kd = 4
  · subst k4
    have hb4 := hw4 rfl
    have h45 : ((4 : Int) == 5) = false := rfl
    rw [h45]
    simp only [if_true] at hJ
    subst hJ
    clear hw4
    go_enter Try.func28, Try.ntmps28
    go_wp2_with fail
    have hwl : Below w.heap.size w ((w.alloc (.cells #[.int .i64 4, .string tx, .int .i64 nn, .slice a2 ks.length c2] 24)).alloc (.cells #[.slice none 0 0, .bool false] 81)) := HB0.out.alloc (by simp) _
    have q5 : Blk ((w.alloc (.cells #[.int .i64 4, .string tx, .int .i64 nn, .slice a2 ks.length c2] 24)).alloc (.cells #[.slice none 0 0, .bool false] 81)) (w.heap.size + 1) #[.slice none 0 0, .bool false] 81 := by
      have := Blk.new (w.alloc (.cells #[.int .i64 4, .string tx, .int .i64 nn, .slice a2 ks.length c2] 24)) #[.slice none 0 0, .bool false] 81
      rw [World.size_alloc] at this
      exact this
    have HR0 := hide (show JoRel w ks (ind + nn) false 0 ((w.alloc (.cells #[.int .i64 4, .string tx, .int .i64 nn, .slice a2 ks.length c2] 24)).alloc (.cells #[.slice none 0 0, .bool false] 81)) from ⟨hwl, ⟨_, [], q5, World.ownsRow_nil _ _ _ _, by rw [List.take_zero, jobsOf]; rfl⟩, by simp, Nat.zero_le _⟩)
    clear hwl q5 hi1
    have hK2 := hK1
    go_loopg [41] ks.length (fun u v41 wr => ∃ k : Nat, Hid (u = ks.length - k) ∧ v41 = .int .i64 (k : Int) ∧ Hid (JoRel w ks (ind + nn) false k wr))
    case atStart => exact ⟨0, rfl, rfl, HR0⟩
    case round =>
      obtain ⟨k, hu, rfl, hr⟩ := hrel
      have hle := hr.out.le
      by_cases hlt : k < ks.length
      · have hlti : (k : Int) < (ks.length : Int) := by omega
        obtain ⟨bk, ob, x3, k3, rfl, hbl, e0, e1, e2, e3, hx⟩ := HK.out.get k hlt
        have hbelow := hr.out.below
        have e0' := (hbelow.cell (p := ⟨bk, ob + k * 4, none⟩) hbl).trans e0
        have e1' := (hbelow.cell (p := ⟨bk, ob + k * 4 + 1, none⟩) hbl).trans e1
        have e2' := (hbelow.cell (p := ⟨bk, ob + k * 4 + 2, none⟩) hbl).trans e2
        have e3' := (hbelow.cell (p := ⟨bk, ob + k * 4 + 3, none⟩) hbl).trans e3
        have hbl' := Nat.lt_of_lt_of_le hbl hbelow.size
        obtain ⟨vk, xs, hm, hown, hrx⟩ := hr.out.ex
        have HMB := hide hm
        have m0 := hm.cell 0
        have mf := hm.free 0
        have ml := hm.lt
        have hcm := cntL_mem (List.getElem_mem hlt)
        have hdm := depL_mem (List.getElem_mem hlt)
        have hba := (Below.refl wr.heap.size wr).alloc (Nat.le_refl _) (.cells #[.int .i64 ks[k].kind, .string ks[k].text, .int .i64 ks[k].num, .slice x3 ks[k].kids.length k3] 24)
        have hx2 : RD (wr.alloc (.cells #[.int .i64 ks[k].kind, .string ks[k].text, .int .i64 ks[k].num, .slice x3 ks[k].kids.length k3] 24)).drew ks[k] _ := RD.below (hbelow.trans ((Below.drew hba).mono hbelow.size)) hx
        have HX := hide (HI.out ks[k] (List.getElem_mem hlt) (wellL_mem HW.out (List.getElem_mem hlt)) (by have := HC.out; omega) (ind + nn) (by have := HJ0.out; omega) (by have := HJ0.out; omega) _ _ hx2)
        have hws := hr.out.size
        have hcl := HC.out
        have HRR := hide (And.intro hown hrx)
        have HBW := hide hbelow
        have HXS := hide (show Calls Try.prog 28 #[.agg #[.int .i64 ks[k].kind, .string ks[k].text, .int .i64 ks[k].num, .slice x3 ks[k].kids.length k3], .int .i64 (ind + nn)] (wr.alloc (.cells #[.int .i64 ks[k].kind, .string ks[k].text, .int .i64 ks[k].num, .slice x3 ks[k].kids.length k3] 24)).drew fun e w3 => ∃ vj, e = .returned vj ∧ ∃ T u, vj = .iface T u ∧ Hid (RJ (fun b => (wr.alloc (.cells #[.int .i64 ks[k].kind, .string ks[k].text, .int .i64 ks[k].num, .slice x3 ks[k].kids.length k3] 24)).drew.heap.size ≤ b ∧ b < w3.heap.size) w3 (jobOf ks[k] (ind + nn)) vj) ∧ Hid (Below (wr.alloc (.cells #[.int .i64 ks[k].kind, .string ks[k].text, .int .i64 ks[k].num, .slice x3 ks[k].kids.length k3] 24)).drew.heap.size (wr.alloc (.cells #[.int .i64 ks[k].kind, .string ks[k].text, .int .i64 ks[k].num, .slice x3 ks[k].kids.length k3] 24)).drew w3) ∧ w3.cell? ⟨w.heap.size + 1, 0, none⟩ = some vk ∧ w3.frozen? ⟨w.heap.size + 1, 0, none⟩ = false ∧ w.heap.size + 1 < w3.heap.size ∧ w.heap.size + 2 ≤ w3.heap.size ∧ w3.ownsRow (w.heap.size + 2) 64 1 vk k xs from HX.out.mono fun e w3 h => by
          obtain ⟨vj, rfl, h1, h2⟩ := h
          obtain ⟨T, u, rfl⟩ := RJ.iface h1.out
          obtain ⟨h3, h4⟩ := jo_new h2.out
          have h5 := HMB.out.below h3
          exact ⟨_, rfl, T, u, rfl, h1, h2, h5.cell 0, h5.free 0, h5.lt, by omega, own_below HRR.out.1 h3⟩)
        have HST := hide (show ∀ w3 w4 v' T u, RJ (fun b => (wr.alloc (.cells #[.int .i64 ks[k].kind, .string ks[k].text, .int .i64 ks[k].num, .slice x3 ks[k].kids.length k3] 24)).drew.heap.size ≤ b ∧ b < w3.heap.size) w3 (jobOf ks[k] (ind + nn)) (.iface T u) → Below (wr.alloc (.cells #[.int .i64 ks[k].kind, .string ks[k].text, .int .i64 ks[k].num, .slice x3 ks[k].kids.length k3] 24)).drew.heap.size (wr.alloc (.cells #[.int .i64 ks[k].kind, .string ks[k].text, .int .i64 ks[k].num, .slice x3 ks[k].kids.length k3] 24)).drew w3 → (w3.alloc (.cells #[.iface T u] 64)).grownBy w4 vk.ownBlock → w4.ownsRow (w.heap.size + 2) 64 1 v' (k + 1) (xs ++ [.iface T u]) → (v'.ownBlock = vk.ownBlock ∨ v'.ownBlock = some (w3.alloc (.cells #[.iface T u] 64)).heap.size) → Blk w4 (w.heap.size + 1) #[vk, .bool false] 81 ∧ JoRel w ks (ind + nn) false (k + 1) (w4.setCell ⟨w.heap.size + 1, 0, none⟩ v') from fun w3 w4 v' T u h1 h2 h3 h4 h5 =>
          ⟨(((HMB.out.below (jo_new h2).1).alloc _).grown h3 (fun e => by have := (own_typed HRR.out.1 e.symm).1; omega)), jo_step hr.out hlt HMB.out HRR.out.1 HRR.out.2 h2 h1 h3 h4 h5⟩)
        clear hx hx2 e0 e1 e2 e3 hm hown hrx hba hbelow hcm hdm HX
        go_upto_region 14 with fail
        go_region_law (first
          | (refine step_call rfl 28 _ _ rfl _ (by simp [Act.eval, Act.put]) (fun w => enters_of Try.func28 (by kernel_rfl) rfl _ w) HXS.out ?_; rintro vj w3 ⟨T, u, rfl, hj3, hb3, n0, nf, nl, ns, nown⟩)
          | (refine step_append_own rfl (.tmp 46) (.tmp 50) 66 rfl (w.heap.size + 2) 64 i0 _ 1 16 Try.underlying66 hi hz0 hz1 hz2 rfl (by decide) vk k xs (by simp [Act.eval, Act.put]) (nown.alloc _) ⟨w3.heap.size, 0, none⟩ 1 1 [.iface T u] (by simp [Act.eval, Act.put]) rfl (cell_one_new _ _ _) (by simp [Value.oneCell']) (by unfold maxLen; omega) (by omega) (by simp; omega) ?_; intro v' w4 hown' hgrow hnil hat; obtain ⟨g', cap', rfl⟩ := ownsRow_succ hown'; obtain ⟨hb4, hn4⟩ := HST.out _ _ _ _ _ hj3.out hb3.out hgrow hown' hat; have HN4 := hide hn4; have r0 := hb4.cell 0; have rf := hb4.free 0; have rl := hb4.lt; clear hown' hgrow hnil hat hb4 hn4))
        all_goals go_wp2_with fail
        all_goals (go_roundg (ks.length - (k + 1)); (case measure => rw [hu.out]; omega); (case rel => exact ⟨k + 1, rfl, rfl, HN4.out⟩))
      · obtain rfl : k = ks.length := by omega
        obtain ⟨vk, xs, hm, hown, hrx⟩ := hr.out.ex
        rw [List.take_length] at hrx
        obtain ⟨ar, cr, rfl, hnl, hjk⟩ := RJX.slice (ok' := fun b => w.heap.size ≤ b ∧ b < wr.heap.size) hown hrx (by omega) (fun b hb => ⟨by omega, hb.2⟩) (fun g hg => by
          obtain ⟨h1, cur, h2⟩ := own_typed hown hg
          exact ⟨by omega, (Array.getElem?_eq_some_iff.1 h2).1⟩)
        have HEND := hide (show JobP (.many (jobsOf ks (ind + nn)) false) w (.returned (.iface 81 (.agg #[.slice ar ks.length cr, .bool false]))) wr from by
          refine ⟨_, rfl, ?_, hr.out.below⟩
          show RJ _ _ _ _
          rw [RJ]
          exact ⟨ar, cr, by rw [jobsOf_len], by rw [jobsOf_len]; exact hK2, hjk.2⟩)
        have m0 := hm.cell 0
        have m1 := hm.cell 1
        have ml := hm.lt
        clear hm hown hrx hjk hK2 hnl
        go_wp2_with fail
        exact ret28 rfl rfl HEND.out
  · rw [if_neg k4] at hJ
    subst hJ
    have hk4 : (kd == 4) = false := by simp [k4]
    clear hw4
    obtain ⟨g, hg⟩ : ∃ g, (kd == 5) = g := ⟨_, rfl⟩
    rw [hg]
    go_enter Try.func28, Try.ntmps28
    go_wp2_with fail
    have hwl : Below w.heap.size w ((w.alloc (.cells #[.int .i64 kd, .string tx, .int .i64 nn, .slice a2 ks.length c2] 24)).alloc (.cells #[.slice none 0 0, .bool g] 81)) := HB0.out.alloc (by simp) _
    have q5 : Blk ((w.alloc (.cells #[.int .i64 kd, .string tx, .int .i64 nn, .slice a2 ks.length c2] 24)).alloc (.cells #[.slice none 0 0, .bool g] 81)) (w.heap.size + 1) #[.slice none 0 0, .bool g] 81 := by
      have := Blk.new (w.alloc (.cells #[.int .i64 kd, .string tx, .int .i64 nn, .slice a2 ks.length c2] 24)) #[.slice none 0 0, .bool g] 81
      rw [World.size_alloc] at this
      exact this
    have HR0 := hide (show JoRel w ks ind g 0 ((w.alloc (.cells #[.int .i64 kd, .string tx, .int .i64 nn, .slice a2 ks.length c2] 24)).alloc (.cells #[.slice none 0 0, .bool g] 81)) from ⟨hwl, ⟨_, [], q5, World.ownsRow_nil _ _ _ _, by rw [List.take_zero, jobsOf]; rfl⟩, by simp, Nat.zero_le _⟩)
    clear hwl q5 hi1
    have hK2 := hK1
    go_loopg [41] ks.length (fun u v41 wr => ∃ k : Nat, Hid (u = ks.length - k) ∧ v41 = .int .i64 (k : Int) ∧ Hid (JoRel w ks ind g k wr))
    case atStart => exact ⟨0, rfl, rfl, HR0⟩
    case round =>
      obtain ⟨k, hu, rfl, hr⟩ := hrel
      have hle := hr.out.le
      by_cases hlt : k < ks.length
      · have hlti : (k : Int) < (ks.length : Int) := by omega
        obtain ⟨bk, ob, x3, k3, rfl, hbl, e0, e1, e2, e3, hx⟩ := HK.out.get k hlt
        have hbelow := hr.out.below
        have e0' := (hbelow.cell (p := ⟨bk, ob + k * 4, none⟩) hbl).trans e0
        have e1' := (hbelow.cell (p := ⟨bk, ob + k * 4 + 1, none⟩) hbl).trans e1
        have e2' := (hbelow.cell (p := ⟨bk, ob + k * 4 + 2, none⟩) hbl).trans e2
        have e3' := (hbelow.cell (p := ⟨bk, ob + k * 4 + 3, none⟩) hbl).trans e3
        have hbl' := Nat.lt_of_lt_of_le hbl hbelow.size
        obtain ⟨vk, xs, hm, hown, hrx⟩ := hr.out.ex
        have HMB := hide hm
        have m0 := hm.cell 0
        have mf := hm.free 0
        have ml := hm.lt
        have hcm := cntL_mem (List.getElem_mem hlt)
        have hdm := depL_mem (List.getElem_mem hlt)
        have hba := (Below.refl wr.heap.size wr).alloc (Nat.le_refl _) (.cells #[.int .i64 ks[k].kind, .string ks[k].text, .int .i64 ks[k].num, .slice x3 ks[k].kids.length k3] 24)
        have hx2 : RD (wr.alloc (.cells #[.int .i64 ks[k].kind, .string ks[k].text, .int .i64 ks[k].num, .slice x3 ks[k].kids.length k3] 24)).drew ks[k] _ := RD.below (hbelow.trans ((Below.drew hba).mono hbelow.size)) hx
        have HX := hide (HI.out ks[k] (List.getElem_mem hlt) (wellL_mem HW.out (List.getElem_mem hlt)) (by have := HC.out; omega) ind (by have := HJ0.out; omega) (by have := HJ0.out; omega) _ _ hx2)
        have hws := hr.out.size
        have hcl := HC.out
        have HRR := hide (And.intro hown hrx)
        have HBW := hide hbelow
        have HXS := hide (show Calls Try.prog 28 #[.agg #[.int .i64 ks[k].kind, .string ks[k].text, .int .i64 ks[k].num, .slice x3 ks[k].kids.length k3], .int .i64 ind] (wr.alloc (.cells #[.int .i64 ks[k].kind, .string ks[k].text, .int .i64 ks[k].num, .slice x3 ks[k].kids.length k3] 24)).drew fun e w3 => ∃ vj, e = .returned vj ∧ ∃ T u, vj = .iface T u ∧ Hid (RJ (fun b => (wr.alloc (.cells #[.int .i64 ks[k].kind, .string ks[k].text, .int .i64 ks[k].num, .slice x3 ks[k].kids.length k3] 24)).drew.heap.size ≤ b ∧ b < w3.heap.size) w3 (jobOf ks[k] ind) vj) ∧ Hid (Below (wr.alloc (.cells #[.int .i64 ks[k].kind, .string ks[k].text, .int .i64 ks[k].num, .slice x3 ks[k].kids.length k3] 24)).drew.heap.size (wr.alloc (.cells #[.int .i64 ks[k].kind, .string ks[k].text, .int .i64 ks[k].num, .slice x3 ks[k].kids.length k3] 24)).drew w3) ∧ w3.cell? ⟨w.heap.size + 1, 0, none⟩ = some vk ∧ w3.frozen? ⟨w.heap.size + 1, 0, none⟩ = false ∧ w.heap.size + 1 < w3.heap.size ∧ w.heap.size + 2 ≤ w3.heap.size ∧ w3.ownsRow (w.heap.size + 2) 64 1 vk k xs from HX.out.mono fun e w3 h => by
          obtain ⟨vj, rfl, h1, h2⟩ := h
          obtain ⟨T, u, rfl⟩ := RJ.iface h1.out
          obtain ⟨h3, h4⟩ := jo_new h2.out
          have h5 := HMB.out.below h3
          exact ⟨_, rfl, T, u, rfl, h1, h2, h5.cell 0, h5.free 0, h5.lt, by omega, own_below HRR.out.1 h3⟩)
        have HST := hide (show ∀ w3 w4 v' T u, RJ (fun b => (wr.alloc (.cells #[.int .i64 ks[k].kind, .string ks[k].text, .int .i64 ks[k].num, .slice x3 ks[k].kids.length k3] 24)).drew.heap.size ≤ b ∧ b < w3.heap.size) w3 (jobOf ks[k] ind) (.iface T u) → Below (wr.alloc (.cells #[.int .i64 ks[k].kind, .string ks[k].text, .int .i64 ks[k].num, .slice x3 ks[k].kids.length k3] 24)).drew.heap.size (wr.alloc (.cells #[.int .i64 ks[k].kind, .string ks[k].text, .int .i64 ks[k].num, .slice x3 ks[k].kids.length k3] 24)).drew w3 → (w3.alloc (.cells #[.iface T u] 64)).grownBy w4 vk.ownBlock → w4.ownsRow (w.heap.size + 2) 64 1 v' (k + 1) (xs ++ [.iface T u]) → (v'.ownBlock = vk.ownBlock ∨ v'.ownBlock = some (w3.alloc (.cells #[.iface T u] 64)).heap.size) → Blk w4 (w.heap.size + 1) #[vk, .bool g] 81 ∧ JoRel w ks ind g (k + 1) (w4.setCell ⟨w.heap.size + 1, 0, none⟩ v') from fun w3 w4 v' T u h1 h2 h3 h4 h5 =>
          ⟨(((HMB.out.below (jo_new h2).1).alloc _).grown h3 (fun e => by have := (own_typed HRR.out.1 e.symm).1; omega)), jo_step hr.out hlt HMB.out HRR.out.1 HRR.out.2 h2 h1 h3 h4 h5⟩)
        clear hx hx2 e0 e1 e2 e3 hm hown hrx hba hbelow hcm hdm HX
        go_upto_region 14 with fail
        go_region_law (first
          | (refine step_call rfl 28 _ _ rfl _ (by simp [Act.eval, Act.put]) (fun w => enters_of Try.func28 (by kernel_rfl) rfl _ w) HXS.out ?_; rintro vj w3 ⟨T, u, rfl, hj3, hb3, n0, nf, nl, ns, nown⟩)
          | (refine step_append_own rfl (.tmp 46) (.tmp 50) 66 rfl (w.heap.size + 2) 64 i0 _ 1 16 Try.underlying66 hi hz0 hz1 hz2 rfl (by decide) vk k xs (by simp [Act.eval, Act.put]) (nown.alloc _) ⟨w3.heap.size, 0, none⟩ 1 1 [.iface T u] (by simp [Act.eval, Act.put]) rfl (cell_one_new _ _ _) (by simp [Value.oneCell']) (by unfold maxLen; omega) (by omega) (by simp; omega) ?_; intro v' w4 hown' hgrow hnil hat; obtain ⟨g', cap', rfl⟩ := ownsRow_succ hown'; obtain ⟨hb4, hn4⟩ := HST.out _ _ _ _ _ hj3.out hb3.out hgrow hown' hat; have HN4 := hide hn4; have r0 := hb4.cell 0; have rf := hb4.free 0; have rl := hb4.lt; clear hown' hgrow hnil hat hb4 hn4))
        all_goals go_wp2_with fail
        all_goals (go_roundg (ks.length - (k + 1)); (case measure => rw [hu.out]; omega); (case rel => exact ⟨k + 1, rfl, rfl, HN4.out⟩))
      · obtain rfl : k = ks.length := by omega
        obtain ⟨vk, xs, hm, hown, hrx⟩ := hr.out.ex
        rw [List.take_length] at hrx
        obtain ⟨ar, cr, rfl, hnl, hjk⟩ := RJX.slice (ok' := fun b => w.heap.size ≤ b ∧ b < wr.heap.size) hown hrx (by omega) (fun b hb => ⟨by omega, hb.2⟩) (fun g hg => by
          obtain ⟨h1, cur, h2⟩ := own_typed hown hg
          exact ⟨by omega, (Array.getElem?_eq_some_iff.1 h2).1⟩)
        have HEND := hide (show JobP (.many (jobsOf ks ind) g) w (.returned (.iface 81 (.agg #[.slice ar ks.length cr, .bool g]))) wr from by
          refine ⟨_, rfl, ?_, hr.out.below⟩
          show RJ _ _ _ _
          rw [RJ]
          exact ⟨ar, cr, by rw [jobsOf_len], by rw [jobsOf_len]; exact hK2, hjk.2⟩)
        have m0 := hm.cell 0
        have m1 := hm.cell 1
        have ml := hm.lt
        clear hm hown hrx hjk hK2 hnl
        go_wp2_with fail
        exact ret28 rfl rfl HEND.out
end Go.Proofs.Ytcmhlfnmjpmjhaa
