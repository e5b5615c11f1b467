/- The walk of Leaves. -/
import Derived.Test.YtcmhlfnmjpmjhaaPTexts
import Derived.Test.YtcmhlfnmjpmjhaaOwn
set_option linter.unusedVariables false
set_option linter.unusedSimpArgs false
set_option linter.unnecessarySimpa false
set_option linter.deprecated false
namespace Go.Proofs.Ytcmhlfnmjpmjhaa
open Go.RowKit

/-- The cells of leaves. -/
def lfC : List Dc → List Value
  | [] => []
  | x :: xs => .int .i64 x.kind :: .string x.text :: .int .i64 x.num :: .slice none 0 0 :: lfC xs
theorem lfC_append (a b : List Dc) : lfC (a ++ b) = lfC a ++ lfC b := by
  induction a with
  | nil => rfl
  | cons x xs ih => rw [List.cons_append, lfC, ih, lfC]; rfl
theorem lfC_one (l : List Dc) : ∀ u ∈ lfC l, u.oneCell' = true := by
  induction l with
  | nil => intro u hu; cases hu
  | cons x xs ih =>
    intro u hu
    rw [lfC] at hu
    simp only [List.mem_cons] at hu
    rcases hu with rfl | rfl | rfl | rfl | hu
    · rfl
    · rfl
    · rfl
    · rfl
    · exact ih u hu
theorem lfC_get : ∀ (l : List Dc) (i : Nat) (h : i < l.length), (lfC l)[i * 4]? = some (.int .i64 l[i].kind) ∧ (lfC l)[i * 4 + 1]? = some (.string l[i].text) ∧ (lfC l)[i * 4 + 2]? = some (.int .i64 l[i].num) ∧ (lfC l)[i * 4 + 3]? = some (.slice none 0 0)
  | x :: xs, 0, _ => by rw [lfC]; exact ⟨rfl, rfl, rfl, rfl⟩
  | x :: xs, i + 1, h => by
    have := lfC_get xs i (by simpa using h)
    rw [lfC]
    simpa [Nat.add_mul] using this
theorem leafsL_append (a b : List Dc) : leafsL (a ++ b) = leafsL a ++ leafsL b := by
  induction a with
  | nil => rw [leafsL]; rfl
  | cons x xs ih => rw [List.cons_append, leafsL, leafsL, ih, List.append_assoc]
theorem leafsL_snoc (ks : List Dc) (k : Nat) (h : k < ks.length) : leafsL (ks.take (k + 1)) = leafsL (ks.take k) ++ leafs ks[k] := by
  rw [List.take_succ_eq_append_getElem h, leafsL_append]
  congr 1
  rw [leafsL, leafsL, List.append_nil]
mutual
theorem leafs_len : ∀ d, (leafs d).length ≤ cnt d
  | .mk k t n ks => by
    rw [leafs, cnt]
    split
    · simp
    · have := leafsL_len ks; omega
theorem leafsL_len : ∀ ks, (leafsL ks).length ≤ cntL ks
  | [] => by rw [leafsL]; simp
  | x :: xs => by rw [leafsL, cntL, List.length_append]; have := leafs_len x; have := leafsL_len xs; omega
end
theorem cntL_app (a b : List Dc) : cntL (a ++ b) = cntL a + cntL b := by
  induction a with
  | nil => rw [cntL]; simp
  | cons x xs ih => rw [List.cons_append, cntL, cntL, ih]; omega
theorem cntL_snoc (ks : List Dc) (k : Nat) (h : k < ks.length) : cntL (ks.take (k + 1)) = cntL (ks.take k) + cnt ks[k] := by
  rw [List.take_succ_eq_append_getElem h, cntL_app]
  simp [cntL]
theorem cntL_le (ks : List Dc) (k : Nat) : cntL (ks.take k) ≤ cntL ks := by
  conv => rhs; rw [← List.take_append_drop k ks, cntL_app]
  omega

/-- What Leaves answers. -/
def LvP (l : List Dc) (w : World) (e : Ending) (w' : World) : Prop := ∃ v, e = .returned v ∧ Hid (w'.ownsRow w.heap.size 24 4 v l.length (lfC l) ∧ Below w.heap.size w w')
structure LvRel (w : World) (A : Array Value) (ks : List Dc) (k : Nat) (v : Value) (wr : World) : Prop where
  below : Below w.heap.size w wr
  box : Blk wr w.heap.size A 24
  own : wr.ownsRow (w.heap.size + 1) 24 4 v (leafsL (ks.take k)).length (lfC (leafsL (ks.take k)))
  le : k ≤ ks.length

theorem LvRel.fin {w : World} {A : Array Value} {ks : List Dc} {v : Value} {wr : World} {l : List Dc} (h : LvRel w A ks ks.length v wr) (hl : l = leafsL ks) : LvP l w (.returned v) wr := by
  subst hl
  refine ⟨v, rfl, ?_, h.below⟩
  have := h.own
  rw [List.take_length] at this
  exact own_base this (by omega)
theorem Below.grown1 {w wr w' : World} {B : Nat} {e : TypeId} {size n : Nat} {v : Value} {xs : List Value} (h : Below w.heap.size w wr) (hown : wr.ownsRow B e size v n xs) (hB : w.heap.size ≤ B) (hg : wr.grownBy w' v.ownBlock) : Below w.heap.size w w' := by
  refine h.grown hg h.size fun k hk => ?_
  rcases hown.2 with ⟨rfl, _⟩ | ⟨g, cap, cur, rfl, hB, _⟩
  · simp [Value.ownBlock] at hk
  · simp only [Value.ownBlock, Option.some.injEq] at hk
    omega
theorem Blk.grown1 {wr w' : World} {k B : Nat} {c : Array Value} {t e : TypeId} {size n : Nat} {v : Value} {xs : List Value} (h : Blk wr k c t) (hown : wr.ownsRow B e size v n xs) (hB : k < B) (hg : wr.grownBy w' v.ownBlock) : Blk w' k c t := by
  refine (hg.block k h.lt fun e2 => ?_).trans h
  rcases hown.2 with ⟨rfl, _⟩ | ⟨g, cap, cur, rfl, hB, _⟩
  · cases e2
  · simp only [Value.ownBlock, Option.some.injEq] at e2
    omega

set_option maxHeartbeats 2000000 in
set_option maxRecDepth 100000 in
theorem Leaves_any : ∀ (d : Dc), cnt d ≤ 1000000 → ∀ (v : Value) (w : World), RD w d v → Calls Try.prog 16 #[v] w (LvP (leafs d) w) := by
  refine Dc.induct fun kd tx nn ks ih => ?_
  intro hc v w hT
  obtain ⟨a2, c2, rfl, hkd, htx, hnn, hks⟩ := hT.open
  simp only [Dc.kind, Dc.text, Dc.num, Dc.kids] at hks htx hkd hnn ⊢
  obtain ⟨j0, hj, hy0, hy1, hy2⟩ := info_parts info24
  have hlen := hks.1
  have HK := hide hks
  have HI := hide ih
  rw [cnt] at hc
  have HC := hide hc
  clear hks ih hT hc
  by_cases hlf : kd = 1 ∨ kd = 2 ∨ kd = 3
  · have hpost : ∀ w1 : World, LvP (leafs (.mk kd tx nn ks)) w (.returned (.slice (some ⟨w.heap.size + 1, 0, none⟩) 1 1)) ((w.alloc (.cells #[.int .i64 kd, .string tx, .int .i64 nn, .slice a2 ks.length c2] 24)).alloc (.cells #[.int .i64 kd, .string tx, .int .i64 nn, .slice none 0 0] 24)) := fun w1 => by
      refine ⟨_, rfl, ?_, ((Below.refl _ w).alloc (Nat.le_refl _) _).alloc (by simp) _⟩
      rw [leafs, if_pos hlf]
      have := World.ownsRow_lit (base := w.heap.size) (e := 24) (size := 4) (w.alloc (.cells #[.int .i64 kd, .string tx, .int .i64 nn, .slice a2 ks.length c2] 24)) #[.int .i64 kd, .string tx, .int .i64 nn, .slice none 0 0] 1 (by simp) (by unfold maxLen; omega) rfl
      rw [World.size_alloc] at this
      exact this
    have HP := hide (hpost w)
    clear hpost
    go_enter Try.func16, Try.ntmps16
    rcases hlf with rfl | rfl | rfl
    · go_wp2_with fail
      go_ret
      exact HP.out
    · go_wp2_with fail
      go_ret
      exact HP.out
    · go_wp2_with fail
      go_ret
      exact HP.out
  · have h1 : (kd == 1) = false := by simp; omega
    have h2 : (kd == 2) = false := by simp; omega
    have h3 : (kd == 3) = false := by simp; omega
    have HL := hide (show leafs (.mk kd tx nn ks) = leafsL ks by rw [leafs, if_neg hlf])
    clear hlf
    have hr0 := hide (show LvRel w #[.int .i64 kd, .string tx, .int .i64 nn, .slice a2 ks.length c2] ks 0 (.slice none 0 0) (w.alloc (.cells #[.int .i64 kd, .string tx, .int .i64 nn, .slice a2 ks.length c2] 24)) from
      ⟨(Below.refl _ w).alloc (Nat.le_refl _) _, Blk.new w _ _, by rw [List.take_zero]; exact World.ownsRow_nil _ _ _ _, Nat.zero_le _⟩)
    go_enter Try.func16, Try.ntmps16
    go_wp2_with fail
    go_loopg [3, 30] ks.length (fun u v3 v30 wr => ∃ k : Nat, Hid (u = ks.length - k) ∧ v30 = .int .i64 (k : Int) ∧ Hid (LvRel w #[.int .i64 kd, .string tx, .int .i64 nn, .slice a2 ks.length c2] ks k v3 wr))
    case atStart => exact ⟨0, rfl, rfl, hr0⟩
    case round =>
      obtain ⟨k, hu, rfl, hr⟩ := hrel
      have hle := hr.out.le
      by_cases hlt : k < ks.length
      · have hlti : (k : Int) < (ks.length : Int) := by omega
        obtain ⟨bk, ob, x3, k3, rfl, hbl, e0, e1, e2, e3, hx⟩ := HK.out.get k hlt
        have hbelow := hr.out.below
        have e0' := (hbelow.cell (p := ⟨bk, ob + k * 4, none⟩) hbl).trans e0
        have e1' := (hbelow.cell (p := ⟨bk, ob + k * 4 + 1, none⟩) hbl).trans e1
        have e2' := (hbelow.cell (p := ⟨bk, ob + k * 4 + 2, none⟩) hbl).trans e2
        have e3' := (hbelow.cell (p := ⟨bk, ob + k * 4 + 3, none⟩) hbl).trans e3
        have hbl' := Nat.lt_of_lt_of_le hbl hbelow.size
        have hba := (Below.refl wr.heap.size wr).alloc (Nat.le_refl _) (.cells #[.int .i64 ks[k].kind, .string ks[k].text, .int .i64 ks[k].num, .slice x3 ks[k].kids.length k3] 24)
        have hcm := cntL_mem (List.getElem_mem hlt)
        have HX := hide (HI.out ks[k] (List.getElem_mem hlt) (by have := HC.out; omega) _ _ (RD.below hba (RD.below hbelow hx)))
        have HB := hide (below_next hbelow hba)
        have HO := hide (own_below hr.out.own hba)
        have HBX := hide (hr.out.box.below hba)
        clear hx e0 e1 e2 e3 hbelow hba
        go_wp2_with fail
        refine HX.out.mono ?_
        rintro e w3 ⟨v3, rfl, hp⟩
        have HB3 := hide (below_next HB.out hp.out.2)
        have HO3 := hide (own_below HO.out hp.out.2)
        have HBX3 := hide (HBX.out.below hp.out.2)
        have h63 : (leafsL (ks.take k)).length + (leafs ks[k]).length ≤ 2000000 := by
          have h1 := leafsL_len (ks.take k)
          have h2 := cntL_le ks k
          have h3 := leafs_len ks[k]
          have := HC.out
          omega
        have hbase : w.heap.size + 1 ≤ w3.heap.size := by have := HBX3.out.lt; omega
        go_wp2_with (at_builtin; refine wpList_append_rows rfl _ _ 22 rfl (w.heap.size + 1) 24 j0 _ 4 56 Try.underlying22 hj hy0 hy1 hy2 rfl (by decide) _ _ _ rfl HO3.out _ _ _ _ rfl hp.out.1 (lfC_one _) (by unfold maxLen; omega) (by omega) hbase ?_; intro v' w4 hown' hgrow)
        have HN := hide (show LvRel w _ ks (k + 1) v' w4 from
          ⟨Below.grown1 HB3.out HO3.out (by omega) hgrow, Blk.grown1 HBX3.out HO3.out (by omega) hgrow, by rw [leafsL_snoc ks k hlt, List.length_append, lfC_append]; exact hown', hlt⟩)
        clear hown' hgrow
        go_wp2_with fail
        go_roundg (ks.length - (k + 1))
        case measure => rw [hu.out]; omega
        case rel => exact ⟨k + 1, rfl, by go_num, HN⟩
      · obtain rfl : k = ks.length := by omega
        have HE := hide (LvRel.fin hr.out HL.out)
        go_wp2_with fail
        go_ret
        exact HE.out
end Go.Proofs.Ytcmhlfnmjpmjhaa
