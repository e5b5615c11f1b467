/- The plain law between the program's way and the reference's: leaves in a row. -/
import Derived.Test.YtcmhlfnmjpmjhaaRefF
set_option linter.unusedVariables false
set_option linter.unusedSimpArgs false
set_option linter.unnecessarySimpa false
set_option linter.deprecated false
namespace Go.Proofs.Ytcmhlfnmjpmjhaa
open Go.RowKit

def allT (l : List Dc) : Bool := l.all fun x => x.kind == 1
theorem tlL_app (a b : List Dc) : tlL (a ++ b) = if allT a then tlL a + tlL b else tlL a := by
  induction a with
  | nil => simp [allT, tlL]
  | cons x xs ih =>
    rw [List.cons_append, tlL, tlL, ih]
    unfold allT
    rw [List.all_cons]
    by_cases h : x.kind = 1
    · simp only [h, if_true, beq_self_eq_true, Bool.true_and]
      split <;> omega
    · simp [h]
theorem allT_app (a b : List Dc) : allT (a ++ b) = (allT a && allT b) := by unfold allT; simp
mutual
theorem rc_leafs : ∀ (d : Dc) (i : Int), rcJ (jobOf d i) = (tlL (leafs d), allT (leafs d))
  | .mk k t n ks, i => by
    rw [jobOf, leafs]
    by_cases h1 : k = 1
    · subst h1
      rw [if_pos rfl, if_pos (Or.inl rfl), rcJ]
      simp [tlL, allT, Dc.kind, Dc.text]
    · rw [if_neg h1]
      by_cases h2 : k = 2
      · subst h2
        rw [if_pos rfl, if_pos (Or.inr (Or.inl rfl)), rcJ]
        simp [tlL, allT, Dc.kind]
      · rw [if_neg h2]
        by_cases h3 : k = 3
        · subst h3
          rw [if_pos rfl, if_pos (Or.inr (Or.inr rfl)), rcJ]
          simp [tlL, allT, Dc.kind]
        · rw [if_neg h3, if_neg (show ¬ (k = 1 ∨ k = 2 ∨ k = 3) by omega), rcJ]
          exact rc_leafsL ks _
theorem rc_leafsL : ∀ (ks : List Dc) (i : Int), rcJL (jobsOf ks i) = (tlL (leafsL ks), allT (leafsL ks))
  | [], i => by rw [jobsOf, rcJL, leafsL]; rfl
  | x :: xs, i => by
    rw [jobsOf, rcJL, leafsL, rc_leafs x i, rc_leafsL xs i, tlL_app, allT_app]
    simp only []
    cases allT (leafs x) <;> simp
end
theorem behind_leafs (ks : List Dc) (i : Int) (r : List Dc) : behind (jobsOf ks i) (tlL r) = tlL (leafsL ks ++ r) := by
  unfold behind
  rw [rc_leafsL, tlL_app]
theorem hdL_any (l : List Dc) : hdL l = l.any fun x => x.kind == 3 := by
  induction l with
  | nil => rfl
  | cons x xs ih => rw [hdL, ih, List.any_cons]
theorem fit_leafs (ks : List Dc) (i : Int) (r : List Dc) (lev : Nat) (st : Wst) (h : ks.all (rtB lev) = true) : fitT (jobsOf ks i) (tlL r) st = fitL (leafsL ks) r st := by
  obtain ⟨h1, h2⟩ := tx_leafsL ks lev i h
  unfold fitT fitL
  rw [h2, hdL_any, szL_flat, ← h1, txJL_len]

mutual
theorem lay_brk : ∀ (j : Jb) (fl : Bool) (t : Nat) (st : Wst), (layJ j fl t st).brk ≤ st.brk + cntJ j
  | .text s, fl, t, st => by
    rw [layJ, cntJ]
    split
    · omega
    · unfold putM; split <;> simp
  | .line s i f, fl, t, st => by
    rw [layJ, cntJ]
    split
    · omega
    · split
      · unfold putM; split <;> simp
      · unfold wrapM; split <;> simp
  | .hard i, fl, t, st => by
    rw [layJ, cntJ]
    split
    · omega
    · unfold wrapM; split <;> simp
  | .many ks g, fl, t, st => by
    rw [layJ, cntJ]
    split
    · omega
    · split
      · split
        · have := lay_brkL ks true t st; omega
        · have := lay_brkL ks false t { st with brk := st.brk + 1 }; simp only at this; omega
      · have := lay_brkL ks fl t st; omega
theorem lay_brkL : ∀ (js : List Jb) (fl : Bool) (t : Nat) (st : Wst), (layL js fl t st).brk ≤ st.brk + cntJL js
  | [], fl, t, st => by rw [layL]; omega
  | x :: xs, fl, t, st => by
    rw [layL, cntJL]
    have h1 := lay_brkL xs fl t (layJ x fl (behind xs t) st)
    have h2 := lay_brk x fl (behind xs t) st
    omega
end
mutual
theorem lay_bnd : ∀ (j : Jb) (fl : Bool) (t : Nat) (st : Wst), st.col ≤ st.out.length → st.out.length ≤ 65536 → (layJ j fl t st).long = false → (layJ j fl t st).col ≤ (layJ j fl t st).out.length ∧ (layJ j fl t st).out.length ≤ 65536
  | .text s, fl, t, st, h1, h2, h => by
    have l := layJ_nl h
    rw [layJ_text l] at h ⊢
    have := (putM_out s.data.toList st h1).2.2 h
    exact ⟨this.2, this.1⟩
  | .line s i f, fl, t, st, h1, h2, h => by
    have l := layJ_nl h
    rw [layJ_line l] at h ⊢
    split at h
    · rename_i c; rw [if_pos c]
      have := (putM_out s.data.toList st h1).2.2 h
      exact ⟨this.2, this.1⟩
    · rename_i c; rw [if_neg c]
      have := (wrapM_out i.toNat st).2.2 h
      exact ⟨this.2, this.1⟩
  | .hard i, fl, t, st, h1, h2, h => by
    have l := layJ_nl h
    rw [layJ_hard l] at h ⊢
    have := (wrapM_out i.toNat st).2.2 h
    exact ⟨this.2, this.1⟩
  | .many ks g, fl, t, st, h1, h2, h => by
    have l := layJ_nl h
    rw [layJ_many l] at h ⊢
    split at h
    · rename_i c; rw [if_pos c]
      split at h
      · rename_i c; rw [if_pos c]; exact lay_bndL ks _ _ _ h1 h2 h
      · rename_i c; rw [if_neg c]; exact lay_bndL ks _ _ _ h1 h2 h
    · rename_i c; rw [if_neg c]; exact lay_bndL ks _ _ _ h1 h2 h
theorem lay_bndL : ∀ (js : List Jb) (fl : Bool) (t : Nat) (st : Wst), st.col ≤ st.out.length → st.out.length ≤ 65536 → (layL js fl t st).long = false → (layL js fl t st).col ≤ (layL js fl t st).out.length ∧ (layL js fl t st).out.length ≤ 65536
  | [], fl, t, st, h1, h2, h => by rw [layL]; exact ⟨h1, h2⟩
  | x :: xs, fl, t, st, h1, h2, h => by
    rw [layL] at h ⊢
    obtain ⟨a1, a2⟩ := lay_bnd x fl _ st h1 h2 (layL_nl h)
    exact lay_bndL xs fl t _ a1 a2 h
end

/-- What Lay answers of a document. -/
def LayP (B b : Nat) (vl : Value) (n : Nat) (m : Nat) (M : Wst) (w : World) (e : Ending) (w' : World) : Prop :=
  e = .returned (.tuple #[]) ∧ Hid (∃ st' n', WR B b vl n' st' w' ∧ ((st'.long = true ∧ M.long = true) ∨ (st' = M ∧ M.long = false ∧ n' = n + m)) ∧ Below B w w' ∧ Lib.OthersKept 5 (some b) w w')
/-- What holds between two rounds over kids. -/
structure LyRel (B b BL : Nat) (l : List Dc) (vl : Value) (A : Array Value) (h : Nat) (ks r : List Dc) (i2 : Int) (fl2 : Bool) (M : Wst) (n : Nat) (w : World) (k : Nat) (wr : World) : Prop where
  below : Below B w wr
  kept : Lib.OthersKept 5 (some b) w wr
  box : Blk wr h A 24
  hne : h ≠ b
  row : wr.ownsRow BL 24 4 vl l.length (lfC l)
  le : k ≤ ks.length
  st : ∃ st' n', WR B b vl n' st' wr ∧ ((st'.long = true ∧ M.long = true) ∨ (st'.long = false ∧ st'.col ≤ st'.out.length ∧ st'.out.length ≤ 65536 ∧ st'.brk + cntL (ks.drop k) ≤ 1000000 ∧ n' = n + (leafsL (ks.take k)).length ∧ layL (jobsOf (ks.drop k) i2) fl2 (tlL r) st' = M))
theorem own_type24 {w w' : World} {B b n : Nat} {v : Value} {xs : List Value} {c : Array Value} (h : w.ownsRow B 24 4 v n xs) (hk : Lib.OthersKept 5 (some b) w w') (hb : Blk w b c 55) : w'.ownsRow B 24 4 v n xs := by
  refine ⟨h.1, ?_⟩
  rcases h.2 with h2 | ⟨g, cap, cur, e1, e2, e3, e4⟩
  · exact .inl h2
  · refine .inr ⟨g, cap, cur, e1, e2, hk g _ e3 (fun h => ?_) (fun c fz h => ?_), e4⟩
    · cases h
      unfold Blk at hb
      rw [hb] at e3
      injection e3 with e3
      injection e3 with _ h4 _
      cases h4
    · injection h with _ h3 _
      cases h3
theorem Blk.kept {w w' : World} {b h : Nat} {A : Array Value} (hb : Blk w h A 24) (hk : Lib.OthersKept 5 (some b) w w') (hne : h ≠ b) : Blk w' h A 24 :=
  hk h _ hb (fun e => by cases e; exact hne rfl) (fun c fz e => by injection e with _ h3 _; cases h3)
theorem LyRel.next {B b BL : Nat} {l : List Dc} {vl : Value} {A : Array Value} {h : Nat} {ks r : List Dc} {i2 : Int} {fl2 : Bool} {M : Wst} {n : Nat} {w : World} {k : Nat} {wr w2 : World} {st' : Wst} {n' : Nat} {lev : Nat} {e : Ending}
    (hr : LyRel B b BL l vl A h ks r i2 fl2 M n w k wr) (hk : k < ks.length) (hrt : rtB lev ks[k] = true) (hi : 0 ≤ i2) (hi2 : i2 + 1000 * (lev : Int) ≤ 1000000) (hW : WR B b vl n' st' wr)
    (h0 : st'.long = false ∧ st'.col ≤ st'.out.length ∧ st'.out.length ≤ 65536 ∧ st'.brk + cntL (ks.drop k) ≤ 1000000 ∧ n' = n + (leafsL (ks.take k)).length ∧ layL (jobsOf (ks.drop k) i2) fl2 (tlL r) st' = M)
    (hp : LayP B b vl n' (leafs ks[k]).length (layJ (jobOf ks[k] i2) fl2 (tlL (leafsL (ks.drop (k + 1)) ++ r)) st') wr e w2) : LyRel B b BL l vl A h ks r i2 fl2 M n w (k + 1) w2 := by
  obtain ⟨h1, h2, h3, h4, h5, h6⟩ := h0
  obtain ⟨_, hq⟩ := hp
  obtain ⟨st2, n2, q1, q2, q3, q4⟩ := hq.out
  obtain ⟨_, v, hbk, _⟩ := hW
  have hde : ks.drop k = ks[k] :: ks.drop (k + 1) := List.drop_eq_getElem_cons hk
  rw [hde, jobsOf, layL_cons, behind_leafs] at h6
  rw [hde, cntL] at h4
  refine ⟨hr.below.trans q3, hr.kept.trans q4, hr.box.kept q4 hr.hne, hr.hne, own_type24 hr.row q4 hbk, hk, st2, n2, q1, ?_⟩
  rcases q2 with ⟨a1, a2⟩ | ⟨rfl, a2, rfl⟩
  · refine Or.inl ⟨a1, ?_⟩
    rw [← h6, layL_long _ _ _ _ a2]
    exact a2
  · obtain ⟨b1, b2⟩ := lay_bnd _ _ _ _ h2 h3 a2
    have hb := lay_brk (jobOf ks[k] i2) fl2 (tlL (leafsL (ks.drop (k + 1)) ++ r)) st'
    have hcj := (jobOf_all ks[k] lev i2 hrt hi hi2).2.2.1
    refine Or.inr ⟨a2, b1, b2, by omega, ?_, h6⟩
    rw [leafsL_snoc ks k hk, List.length_append]
    omega
theorem LyRel.fin {B b BL : Nat} {l : List Dc} {vl : Value} {A : Array Value} {h : Nat} {ks r : List Dc} {i2 : Int} {fl2 : Bool} {M : Wst} {n : Nat} {w : World} {k : Nat} {wr : World}
    (hr : LyRel B b BL l vl A h ks r i2 fl2 M n w k wr) (hk : k = ks.length ∨ ∀ st' n', WR B b vl n' st' wr → st'.long = true) : LayP B b vl n (leafsL ks).length M w (.returned (.tuple #[])) wr := by
  obtain ⟨st', n', hW, hst⟩ := hr.st
  refine ⟨rfl, st', n', hW, ?_, hr.below, hr.kept⟩
  rcases hst with ⟨h1, h2⟩ | ⟨h1, h2, h3, h4, h5, h6⟩
  · exact Or.inl ⟨h1, h2⟩
  · rcases hk with rfl | hk
    · rw [List.drop_length, jobsOf, layL] at h6
      rw [List.take_length] at h5
      subst h6
      exact Or.inr ⟨rfl, h1, h5⟩
    · have := hk _ _ hW
      rw [h1] at this
      cases this
theorem LeafP.lay {B b n : Nat} {vl : Value} {M : Wst} {w : World} {e : Ending} {w' : World} (h : LeafP B b vl (n + 1) M w e w') : LayP B b vl n 1 M w e w' := by
  obtain ⟨he, h2⟩ := h
  obtain ⟨st', h3, h4, h5, h6⟩ := h2.out
  refine ⟨he, st', n + 1, h3, ?_, h5, h6⟩
  rcases h4 with ⟨a, b⟩ | ⟨a, b⟩
  · exact Or.inl ⟨b, a⟩
  · exact Or.inr ⟨b, a, rfl⟩
end Go.Proofs.Ytcmhlfnmjpmjhaa
