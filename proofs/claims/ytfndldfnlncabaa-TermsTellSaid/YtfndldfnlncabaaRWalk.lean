/- The walk of the reference's Walk: a row of all parts of a term, each ahead of its kids. -/
import Derived.Test.YtfndldfnlncabaaRCopyT
import Derived.Test.YtfndldfnlncabaaArgs
set_option linter.unusedVariables false
set_option linter.unusedSimpArgs false
set_option linter.unnecessarySimpa false
set_option linter.deprecated false
namespace Go.Proofs.Ytfndldfnlncabaa
open Go.RowKit

mutual
/-- A term's parts, each ahead of its kids. -/
def pre : Tm → List Tm
  | .mk k c t ks => .mk k c t ks :: preL ks
def preL : List Tm → List Tm
  | [] => []
  | x :: xs => pre x ++ preL xs
end
mutual
theorem pre_len : ∀ T, (pre T).length = cnt T
  | .mk k c t ks => by rw [pre, cnt, List.length_cons, preL_len]; omega
theorem preL_len : ∀ ks, (preL ks).length = cntL ks
  | [] => by rw [preL, cntL]; rfl
  | x :: xs => by rw [preL, cntL, List.length_append, pre_len, preL_len]
end
theorem pre_eq (T : Tm) : pre T = T :: preL T.kids := by cases T; rw [pre]; rfl
theorem preL_append (a b : List Tm) : preL (a ++ b) = preL a ++ preL b := by
  induction a with
  | nil => rw [preL]; rfl
  | cons x xs ih => rw [List.cons_append, preL, preL, ih, List.append_assoc]
theorem preL_snoc (ks : List Tm) (k : Nat) (h : k < ks.length) : preL (ks.take (k + 1)) = preL (ks.take k) ++ pre ks[k] := by
  rw [List.take_succ_eq_append_getElem h, preL_append]
  congr 1
  rw [preL, preL, List.append_nil]
theorem cntL_take (ks : List Tm) (k : Nat) : cntL (ks.take k) ≤ cntL ks := by
  induction ks generalizing k with
  | nil => simp
  | cons x xs ih =>
    cases k with
    | zero => simp [cntL]
    | succ k => rw [List.take_succ_cons, cntL, cntL]; have := ih k; omega

/-- Cells, four by four, read as terms. -/
def RC (ok : Nat → Prop) (w : World) : List Tm → List Value → Prop
  | [], xs => xs = []
  | T :: Ts, xs => ∃ v0 v1 v2 v3 ys, xs = v0 :: v1 :: v2 :: v3 :: ys ∧ RTo ok w T (.agg #[v0, v1, v2, v3]) ∧ RC ok w Ts ys
theorem RC.append {ok : Nat → Prop} {w : World} : ∀ {A B : List Tm} {xs ys : List Value}, RC ok w A xs → RC ok w B ys → RC ok w (A ++ B) (xs ++ ys)
  | [], B, xs, ys, ha, hb => by have : xs = [] := ha; subst this; exact hb
  | T :: Ts, B, xs, ys, ha, hb => by
    obtain ⟨v0, v1, v2, v3, zs, rfl, hx, hr⟩ := ha
    exact ⟨v0, v1, v2, v3, zs ++ ys, rfl, hx, RC.append hr hb⟩
theorem RC.keep {ok : Nat → Prop} {w w' : World} (hk : Keep ok w w') : ∀ {A : List Tm} {xs : List Value}, RC ok w A xs → RC ok w' A xs
  | [], xs, h => h
  | T :: Ts, xs, h => by
    obtain ⟨v0, v1, v2, v3, zs, rfl, hx, hr⟩ := h
    exact ⟨v0, v1, v2, v3, zs, rfl, RTo.keep hk hx, RC.keep hk hr⟩
theorem RC.weak {ok ok' : Nat → Prop} {w : World} (hk : ∀ k, ok k → ok' k) : ∀ {A : List Tm} {xs : List Value}, RC ok w A xs → RC ok' w A xs
  | [], xs, h => h
  | T :: Ts, xs, h => by
    obtain ⟨v0, v1, v2, v3, zs, rfl, hx, hr⟩ := h
    exact ⟨v0, v1, v2, v3, zs, rfl, RTo.weak hk hx, RC.weak hk hr⟩
theorem RC.get {ok : Nat → Prop} {w : World} : ∀ {A : List Tm} {xs : List Value}, RC ok w A xs → ∀ i (hi : i < A.length), ∃ v0 v1 v2 v3, xs[i * 4]? = some v0 ∧ xs[i * 4 + 1]? = some v1 ∧ xs[i * 4 + 2]? = some v2 ∧ xs[i * 4 + 3]? = some v3 ∧ RTo ok w A[i] (.agg #[v0, v1, v2, v3])
  | [], xs, h, i, hi => by simp at hi
  | T :: Ts, xs, h, 0, _ => by
    obtain ⟨v0, v1, v2, v3, zs, rfl, hx, hr⟩ := h
    exact ⟨v0, v1, v2, v3, rfl, rfl, rfl, rfl, hx⟩
  | T :: Ts, xs, h, i + 1, hi => by
    obtain ⟨v0, v1, v2, v3, zs, rfl, hx, hr⟩ := h
    have := RC.get hr i (by simpa using hi)
    simpa [Nat.add_mul] using this
theorem RC.one {ok : Nat → Prop} {w : World} {T : Tm} {v0 v1 v2 v3 : Value} (h : RTo ok w T (.agg #[v0, v1, v2, v3])) : RC ok w [T] [v0, v1, v2, v3] := ⟨v0, v1, v2, v3, [], rfl, h, rfl⟩

/-- What the reference's Walk answers. -/
def WalkP (ok : Nat → Prop) (w : World) (T : Tm) (e : Ending) (w' : World) : Prop :=
  ∃ v' xs, e = .returned v' ∧ Hid (w'.ownsRow (w.heap.size + 1) 25 4 v' (pre T).length xs ∧ RC ok w' (pre T) xs ∧ Below w.heap.size w w')
def RWalkOk (T : Tm) : Prop := cnt T ≤ 1000000 → ∀ (ok : Nat → Prop) (v : Value) (w : World), (∀ k, ok k → k < w.heap.size) → RTo ok w T v → Calls Try.prog 22 #[v] w (WalkP ok w T)

structure RWalkRel (ok : Nat → Prop) (w : World) (T : Tm) (A : Array Value) (k : Nat) (v : Value) (wr : World) : Prop where
  below : Below w.heap.size w wr
  box : Blk wr w.heap.size A 25
  own : ∃ xs, wr.ownsRow (w.heap.size + 1) 25 4 v (1 + (preL (T.kids.take k)).length) xs ∧ RC ok wr (T :: preL (T.kids.take k)) xs
  le : k ≤ T.kids.length

theorem own_at {w : World} {B n : Nat} {v : Value} {xs : List Value} (h : w.ownsRow B 25 4 v n xs) (hn : n ≠ 0) : ∃ g cap, v = .slice (some ⟨g, 0, none⟩) n cap ∧ B ≤ g ∧ g < w.heap.size ∧ n ≤ cap ∧ (∀ j u, xs[j]? = some u → w.cell? ((⟨g, 0, none⟩ : Addr).add j) = some u) ∧ xs.length = n * 4 := by
  obtain ⟨g, hg⟩ := own_some h hn
  obtain ⟨hB, hl, ⟨cap, cur, rfl, hh, hs⟩, hc⟩ := own_cells h hg
  refine ⟨g, cap, rfl, hB, hl, ?_, fun j u hj => ?_, h.1⟩
  · rcases h.2 with ⟨e, _⟩ | ⟨g', cap', cur', e, _, _, hn', _⟩
    · cases e
    · injection e with _ _ e3
      subst e3; exact hn'
  · have hj2 : j < n * 4 := by rw [← h.1]; exact (List.getElem?_eq_some_iff.1 hj).1
    have := hc j hj2
    rw [add_mk, Nat.zero_add, this]; exact hj
theorem oneCell_rc {ok : Nat → Prop} {w : World} : ∀ {A : List Tm} {xs : List Value}, RC ok w A xs → ∀ u ∈ xs, u.oneCell' = true
  | [], xs, h, u, hu => by have : xs = [] := h; subst this; cases hu
  | T :: Ts, xs, h, u, hu => by
    obtain ⟨v0, v1, v2, v3, zs, rfl, hx, hr⟩ := h
    obtain ⟨a1, c1, a2, c2, e, _⟩ := hx.open
    simp only [Value.agg.injEq, Array.mk.injEq, List.cons.injEq, and_true] at e
    obtain ⟨rfl, rfl, rfl, rfl⟩ := e
    simp only [List.mem_cons] at hu
    rcases hu with rfl | rfl | rfl | rfl | hu
    · rfl
    · rfl
    · rfl
    · rfl
    · exact oneCell_rc hr u hu

set_option maxHeartbeats 2000000 in
set_option maxRecDepth 100000 in
theorem rwalk_any : ∀ T, RWalkOk T := by
  refine Tm.induct fun kd cs tx ks ih => ?_
  intro hcnt ok v w hok hT
  rw [cnt] at hcnt
  have hkc : ks.length ≤ 1000000 := by have := len_cntL ks; omega
  have HCN := hide hcnt
  obtain ⟨a1, c1, a2, c2, rfl, hkd, hcs, ht1, hks⟩ := hT.open
  simp only [Tm.kind, Tm.cons, Tm.text, Tm.kids] at hks ht1 hkd hcs hT ⊢
  have HK := hide hks
  have HT := hide hT
  have HI := hide ih
  have ht2 := ht1.1
  obtain ⟨j0, hj, hy0, hy1, hy2⟩ := info_parts info25
  have hnew0 := four_new (w.alloc (.cells #[.int .i64 kd, .string cs, .slice a1 tx.length c1, .slice a2 ks.length c2] 25)) (.int .i64 kd) (.string cs) (.slice a1 tx.length c1) (.slice a2 ks.length c2) 25
  have hw1 : w.heap.size + 1 ≤ ((w.alloc (.cells #[.int .i64 kd, .string cs, .slice a1 tx.length c1, .slice a2 ks.length c2] 25)).alloc (.cells #[.int .i64 kd, .string cs, .slice a1 tx.length c1, .slice a2 ks.length c2] 25)).heap.size := by simp
  have hB0 : Below w.heap.size w ((w.alloc (.cells #[.int .i64 kd, .string cs, .slice a1 tx.length c1, .slice a2 ks.length c2] 25)).alloc (.cells #[.int .i64 kd, .string cs, .slice a1 tx.length c1, .slice a2 ks.length c2] 25)) := ((Below.refl _ w).alloc (Nat.le_refl _) _).alloc (by simp) _
  have hb0 : Blk ((w.alloc (.cells #[.int .i64 kd, .string cs, .slice a1 tx.length c1, .slice a2 ks.length c2] 25)).alloc (.cells #[.int .i64 kd, .string cs, .slice a1 tx.length c1, .slice a2 ks.length c2] 25)) w.heap.size #[.int .i64 kd, .string cs, .slice a1 tx.length c1, .slice a2 ks.length c2] 25 := (Blk.new w _ _).alloc _
  have HB0 := hide hB0
  have HBK := hide hb0
  have HCT := hide hcnt
  clear hks ht1 ih hT hcnt hB0 hb0
  rw [World.size_alloc] at hnew0
  go_enter Try.func22, Try.ntmps22
  go_wp2_with (at_builtin; refine wpList_append_own_at _ rfl _ _ 23 rfl (w.heap.size + 1) 25 j0 _ 4 72 Try.underlying23 hj hy0 hy1 hy2 rfl (by decide) _ 0 [] rfl (World.ownsRow_nil _ _ _ _) ⟨w.heap.size + 1, 0, none⟩ 1 1 _ rfl rfl hnew0 (by simp [Value.oneCell']) (by unfold maxLen; omega) (by omega) hw1 ?_; intro v' w2 hown' hgrow hnil hat; have HR := hide (show RWalkRel ok w (.mk kd cs tx ks) #[.int .i64 kd, .string cs, .slice a1 tx.length c1, .slice a2 ks.length c2] 0 v' w2 from ⟨HB0.out.trans ((Below.refl _ _).grown hgrow HB0.out.size (fun k e => by cases e)), (hgrow.block _ (by simp; omega) (fun e => by cases e)).trans HBK.out, ⟨_, hown', RC.one (RTo.keep (keep_below (HB0.out.trans ((Below.refl _ _).grown hgrow HB0.out.size (fun k e => by cases e)))) HT.out)⟩, Nat.zero_le _⟩); clear hown' hgrow hnil hat)
  go_loopg [3, 4] ks.length (fun u v3 v4 wr => ∃ k : Nat, Hid (u = ks.length - k) ∧ v4 = .int .i64 (k : Int) ∧ Hid (RWalkRel ok w (.mk kd cs tx ks) #[.int .i64 kd, .string cs, .slice a1 tx.length c1, .slice a2 ks.length c2] k v3 wr))
  case atStart => exact ⟨0, rfl, rfl, HR⟩
  case round =>
    obtain ⟨k, hu, rfl, hr⟩ := hrel
    have hle := hr.out.le
    have p3 := hr.out.box.cell 3
    have pl := hr.out.box.lt
    simp only [Tm.kids] at hle
    by_cases hlt : k < ks.length
    · have hlti : (k : Int) < (ks.length : Int) := by omega
      obtain ⟨bk, ob, x1, k1, x3, k3, rfl, hbl, e0, e1, e2, e3, hx⟩ := HK.out.get k hlt
      have hbelow := hr.out.below
      have e0' := (hbelow.cell (p := ⟨bk, ob + k * 4, none⟩) hbl).trans e0
      have e1' := (hbelow.cell (p := ⟨bk, ob + k * 4 + 1, none⟩) hbl).trans e1
      have e2' := (hbelow.cell (p := ⟨bk, ob + k * 4 + 2, none⟩) hbl).trans e2
      have e3' := (hbelow.cell (p := ⟨bk, ob + k * 4 + 3, none⟩) hbl).trans e3
      have hbl' := Nat.lt_of_lt_of_le hbl hbelow.size
      have HX := hide (HI.out ks[k] (List.getElem_mem hlt) (by have := cntL_mem (List.getElem_mem hlt); have := HCN.out; omega) ok _ wr (fun j hj => Nat.lt_of_lt_of_le (hok j hj) hbelow.size) (RTo.keep ⟨hbelow.size, fun j hj _ => hbelow.block j (hok j hj)⟩ hx))
      have HOK := hide hok
      clear hx e0 e1 e2 e3
      go_wp2_with fail
      refine HX.out.mono ?_
      rintro e w3 ⟨v3, xs3, rfl, hp⟩
      obtain ⟨xs, hown, hrc⟩ := hr.out.own
      simp only [Tm.kids] at hown hrc
      obtain ⟨g3, cap3, rfl, hg3, hg3l, hcap3, hnews, hl3⟩ := own_at hp.out.1 (by rw [pre_eq]; simp)
      have hone := oneCell_rc hp.out.2.1
      have hown3 := own_below hown hp.out.2.2
      have h63 : 1 + (preL (ks.take k)).length + (pre ks[k]).length ≤ 2000000 := by
        have h1 := preL_len (ks.take k)
        have h2 := cntL_take ks k
        have h3 := pre_len ks[k]
        have h4 := cntL_mem (List.getElem_mem hlt)
        have := HCN.out
        omega
      have hbase : w.heap.size + 1 ≤ w3.heap.size := by have := hp.out.2.2.size; omega
      go_wp2_with (at_builtin; refine wpList_append_own_at _ rfl _ _ 23 rfl (w.heap.size + 1) 25 j0 _ 4 72 Try.underlying23 hj hy0 hy1 hy2 rfl (by decide) _ _ _ rfl hown3 ⟨g3, 0, none⟩ _ cap3 xs3 rfl hl3 hnews hone (by unfold maxLen; omega) (by omega) hbase ?_; intro v' w4 hown' hgrow hnil hat; clear hnil hat)
      go_roundg (ks.length - (k + 1))
      case measure => rw [hu.out]; omega
      case rel =>
        have hrow : ∀ j, some j = _ → w.heap.size + 1 ≤ j := fun j hj => (World.ownsRow.lt hown3 j hj.symm).1
        have hb3 : Below w.heap.size w w3 := hbelow.trans (hp.out.2.2.mono hbelow.size)
        have hb4 : Below w.heap.size w w4 := hb3.grown hgrow hb3.size (fun j hj => by have := hrow j hj.symm; omega)
        have hk4 : Keep ok w3 w4 := ⟨hgrow.size, fun j hj hl => hgrow.block j hl (fun e => by have := hrow j e; have := HOK.out j hj; omega)⟩
        refine ⟨k + 1, rfl, rfl, hide ⟨hb4, ((hr.out.box.below hp.out.2.2).grown hgrow (fun e => by have := hrow _ e; omega)), ⟨xs ++ xs3, ?_, ?_⟩, hlt⟩⟩
        · simp only [Tm.kids]
          rw [preL_snoc _ _ hlt, List.length_append, ← Nat.add_assoc]
          exact hown'
        · simp only [Tm.kids]
          rw [preL_snoc _ _ hlt, ← List.cons_append]
          exact RC.append (RC.keep hk4 (RC.keep ⟨hp.out.2.2.size, fun j hj hl => hp.out.2.2.block j hl⟩ hrc)) (RC.keep hk4 hp.out.2.1)
    · obtain rfl : k = ks.length := by omega
      go_wp2_with fail
      go_ret
      obtain ⟨xs, hown, hrc⟩ := hr.out.own
      simp only [Tm.kids, List.take_length] at hown hrc
      refine ⟨_, xs, rfl, ?_, ?_, hr.out.below⟩
      · have hpl : (pre (.mk kd cs tx ks)).length = 1 + (preL ks).length := by rw [pre, List.length_cons]; omega
        rw [hpl]; exact hown
      · rw [pre]; exact hrc
end Go.Proofs.Ytfndldfnlncabaa
