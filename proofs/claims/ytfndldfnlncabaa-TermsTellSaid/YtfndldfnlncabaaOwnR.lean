/- A row of terms that a call builds by append: the terms lie apart, in blocks of their own. -/
import Derived.Test.YtfndldfnlncabaaCopied
set_option linter.unusedVariables false
set_option linter.unusedSimpArgs false
set_option linter.unnecessarySimpa false
set_option linter.deprecated false
namespace Go.Proofs.Ytfndldfnlncabaa
open Go.RowKit

theorem Trees.move {w w' : World} {b b' : Nat} : ∀ {ks : List Tm} {o : Nat} {P : Nat → Prop}, Keep P w w' → (∀ i, o ≤ i → i < o + ks.length * 4 → w'.cell? ⟨b', i, none⟩ = w.cell? ⟨b, i, none⟩) → Trees w b o ks P → Trees w' b' o ks P
  | [], _, _, _, _, _ => by rw [Trees]; trivial
  | x :: xs, o, P, hk, hc, h => by
    rw [Trees] at h ⊢
    obtain ⟨v0, v1, v2, v3, Q, ⟨e0, e1, e2, e3⟩, hx, hq, hr⟩ := h
    have hl : (x :: xs).length = xs.length + 1 := rfl
    exact ⟨v0, v1, v2, v3, Q, ⟨(hc o (by omega) (by omega)).trans e0, (hc _ (by omega) (by omega)).trans e1, (hc _ (by omega) (by omega)).trans e2, (hc _ (by omega) (by omega)).trans e3⟩,
      Tree.keep ⟨hk.size, fun k h2 => hk.block k (hq k h2)⟩ hx, hq, Trees.move ⟨hk.size, fun k h2 => hk.block k h2.1⟩ (fun i h1 h2 => hc i (by omega) (by omega)) hr⟩

structure OwnR (B : Nat) (a1 : Option Addr) (ks : List Tm) (v : Value) (w : World) : Prop where
  own : ∃ xs, w.ownsRow B 25 4 v ks.length xs
  trees : ∀ g, v.ownBlock = some g → some g ≠ a1.map (·.block) ∧ Trees w g 0 ks (fun k => (B ≤ k ∧ k ≠ g ∧ some k ≠ a1.map (·.block)) ∧ k < w.heap.size)

theorem OwnR.nil (B : Nat) (a1 : Option Addr) (w : World) : OwnR B a1 [] (.slice none 0 0) w :=
  ⟨⟨[], World.ownsRow_nil ..⟩, fun g h => by cases h⟩

theorem own_cells {w : World} {B g n : Nat} {v : Value} {xs : List Value} (h : w.ownsRow B 25 4 v n xs) (hg : v.ownBlock = some g) :
    B ≤ g ∧ g < w.heap.size ∧ (∃ cap cur, v = .slice (some ⟨g, 0, none⟩) n cap ∧ w.heap[g]? = some (.cells cur 25 (0, 0)) ∧ n * 4 ≤ cur.size) ∧ ∀ i, i < n * 4 → w.cell? ⟨g, i, none⟩ = xs[i]? := by
  rcases h.2 with ⟨rfl, _⟩ | ⟨g', cap, cur, rfl, hB, hh, hn, _, hsz, htk⟩
  · cases hg
  · simp only [Value.ownBlock, Option.some.injEq] at hg
    subst hg
    refine ⟨hB, (Array.getElem?_eq_some_iff.1 hh).1, ⟨cap, cur, rfl, hh, by rw [hsz]; exact Nat.mul_le_mul_right 4 hn⟩, fun i hi => ?_⟩
    rw [cell_at hh, ← Array.getElem?_toList, ← htk, List.getElem?_take_of_lt hi]

theorem own_some {w : World} {B n : Nat} {v : Value} {xs : List Value} (h : w.ownsRow B 25 4 v n xs) (hn : n ≠ 0) : ∃ g, v.ownBlock = some g := by
  rcases h.2 with ⟨_, h0⟩ | ⟨g', cap, cur, rfl, _⟩
  · exact absurd h0 hn
  · exact ⟨g', rfl⟩

theorem OwnR.step {B : Nat} {a1 : Option Addr} {ks : List Tm} {x : Tm} {v v' : Value} {wr w3 wA w4 : World} {xs : List Value} {y0 y1 y2 y3 : Value} (h : OwnR B a1 ks v wr) (hown : wr.ownsRow B 25 4 v ks.length xs) (hB : B ≤ wr.heap.size)
    (hb3 : Below wr.heap.size wr w3) (hT : Tree w3 x (fun k => wr.heap.size ≤ k) (.agg #[y0, y1, y2, y3])) (hA : Below w3.heap.size w3 wA) (hg : wA.grownBy w4 v.ownBlock)
    (hown' : w4.ownsRow B 25 4 v' (ks.length + 1) (xs ++ [y0, y1, y2, y3])) (hat : v'.ownBlock = v.ownBlock ∨ v'.ownBlock = some wA.heap.size) (ha : ∀ k, some k = a1.map (·.block) → k < wr.heap.size) : OwnR B a1 (ks ++ [x]) v' w4 := by
  have hl : (ks ++ [x]).length = ks.length + 1 := by simp
  refine ⟨⟨_, by rw [hl]; exact hown'⟩, fun g' hg' => ?_⟩
  have s3 := hb3.size
  have sA := hA.size
  have s4 := hg.size
  obtain ⟨_, hgl, _, hcells⟩ := own_cells hown' hg'
  have hxl : xs.length = ks.length * 4 := hown.1
  have hold : ∀ k, k < wr.heap.size → some k ≠ v.ownBlock → w4.heap[k]? = wr.heap[k]? := fun k hk hne => (hg.block k (by omega) hne).trans ((hA.block k (by omega)).trans (hb3.block k hk))
  have hwhere : v.ownBlock = some g' ∨ g' = wA.heap.size := by
    rcases hat with e | e
    · exact Or.inl (e.symm.trans hg')
    · right
      rw [hg'] at e
      exact Option.some.inj e
  have hg1 : some g' ≠ a1.map (·.block) := by
    rcases hwhere with e | e
    · exact (h.trees g' e).1
    · intro he
      have := ha g' he
      omega
  refine ⟨hg1, ?_⟩
  have htrees : Trees w4 g' 0 ks (fun k => (B ≤ k ∧ some k ≠ v.ownBlock ∧ some k ≠ a1.map (·.block)) ∧ k < wr.heap.size) := by
    by_cases h0 : ks = []
    · subst h0; rw [Trees]; trivial
    · obtain ⟨g, hgv⟩ := own_some hown (fun e => h0 (List.eq_nil_of_length_eq_zero e))
      obtain ⟨_, ht⟩ := h.trees g hgv
      obtain ⟨_, _, _, hc⟩ := own_cells hown hgv
      refine Trees.move ⟨by omega, fun k hk _ => hold k hk.2 hk.1.2.1⟩ (fun i _ hi => ?_) (Trees.weak (fun k hk => ⟨⟨hk.1.1, fun e => hk.1.2.1 (by rw [hgv] at e; exact Option.some.inj e), hk.1.2.2⟩, hk.2⟩) ht)
      rw [hcells i (by omega), hc i (by omega), List.getElem?_append_left (by omega)]
  have hx : Tree w4 x (fun k => wr.heap.size ≤ k ∧ k < w3.heap.size) (.agg #[y0, y1, y2, y3]) := by
    refine Tree.keep ⟨by omega, fun k hk _ => (hg.block k (by omega) (fun e => ?_)).trans (hA.block k hk.2)⟩ hT.low
    obtain ⟨_, h2, _⟩ := own_cells hown e.symm
    omega
  have hnew : ∀ r, r < 4 → w4.cell? ⟨g', 0 + ks.length * 4 + r, none⟩ = [y0, y1, y2, y3][r]? := by
    intro r hr
    rw [Nat.zero_add, hcells _ (by omega), List.getElem?_append_right (by omega)]
    congr 1
    omega
  refine Trees.snoc hx htrees (fun k hk => ⟨⟨hk.1.1, fun e => ?_, hk.1.2.2⟩, by omega⟩) (fun k hk => ⟨⟨⟨by omega, fun e => ?_, fun e => ?_⟩, by omega⟩, fun hp => by omega⟩) (hnew 0 (by omega)) (hnew 1 (by omega)) (hnew 2 (by omega)) (hnew 3 (by omega))
  · rcases hwhere with e2 | e2
    · exact hk.1.2.1 (by rw [e, e2])
    · omega
  · rcases hwhere with e2 | e2
    · obtain ⟨_, h2, _⟩ := own_cells hown e2
      omega
    · omega
  · have := ha k e
    omega

theorem OwnR.shown {B : Nat} {a1 : Option Addr} {ks : List Tm} {v : Value} {w : World} (h : OwnR B a1 ks v w) : ∃ a c, v = .slice a ks.length c := by
  obtain ⟨xs, ho⟩ := h.own
  rcases ho.2 with ⟨rfl, h0⟩ | ⟨g, cap, cur, rfl, _⟩
  · exact ⟨none, 0, by rw [h0]⟩
  · exact ⟨_, cap, rfl⟩
theorem OwnR.keep {B : Nat} {a1 : Option Addr} {ks : List Tm} {v : Value} {w w' : World} (hk : Keep (fun k => B ≤ k) w w') (h : OwnR B a1 ks v w) : OwnR B a1 ks v w' := by
  obtain ⟨xs, ho⟩ := h.own
  refine ⟨⟨xs, ho.1, ?_⟩, fun g hg => ?_⟩
  · rcases ho.2 with h0 | ⟨g, cap, cur, e, hB, hh, hr⟩
    · exact Or.inl h0
    · exact Or.inr ⟨g, cap, cur, e, hB, (hk.block g hB (Array.getElem?_eq_some_iff.1 hh).1).trans hh, hr⟩
  · obtain ⟨hB, hgl, _⟩ := own_cells ho hg
    obtain ⟨h1, h2⟩ := h.trees g hg
    exact ⟨h1, Trees.weak (fun k hk2 => ⟨hk2.1, Nat.lt_of_lt_of_le hk2.2 hk.size⟩) (Trees.keep ⟨hk.size, fun k hk2 hl => hk.block k hk2.1.1 hl⟩ (fun i _ _ => hk.cell hB hgl i) h2)⟩
/-- A term is made of its parts. -/
theorem Tree.shut {w : World} {B : Nat} {kd : Int} {cs : ByteArray} {tx : List UInt8} {ks : List Tm} {a1 a2 : Option Addr} {c1 c2 : Nat} (hkd : -9223372036854775808 ≤ kd ∧ kd ≤ 9223372036854775807) (hcs : cs.size ≤ 140737488351232) (hkl : ks.length ≤ 140737488351232)
    (ht : TBo (fun k => B ≤ k) w a1 tx) (ho : OwnR B a1 ks (.slice a2 ks.length c2) w) : Tree w (.mk kd cs tx ks) (fun k => B ≤ k) (.agg #[.int .i64 kd, .string cs, .slice a1 tx.length c1, .slice a2 ks.length c2]) := by
  rw [Tree]
  refine ⟨a1, c1, a2, c2, rfl, hkd, hcs, ht, hkl, fun hn => ?_⟩
  obtain ⟨xs, hown⟩ := ho.own
  obtain ⟨g, hg⟩ := own_some hown (fun e => hn (List.eq_nil_of_length_eq_zero e))
  obtain ⟨hB, _, ⟨cap, cur, e, hh, hs⟩, _⟩ := own_cells hown hg
  obtain ⟨h1, h2⟩ := ho.trees g hg
  injection e with e1 _ _
  exact ⟨g, cur, e1, hB, hh, hs, h1, Trees.weak (fun k hk => ⟨hk.1.1, hk.1.2.1, hk.1.2.2⟩) h2⟩
end Go.Proofs.Ytfndldfnlncabaa
