/- What it is for a value to read as a term that lies in blocks of its own, shared by nothing; a part of it can be written over. -/
import Derived.Test.YtfndldfnlncabaaMem
set_option linter.unusedVariables false
set_option linter.unusedSimpArgs false
set_option linter.unnecessarySimpa false
set_option linter.deprecated false
namespace Go.Proofs.Ytfndldfnlncabaa
open Go.RowKit

/-- A slice of bytes in a block that is so, unmarked, reads as a list. -/
def TBo (ok : Nat → Prop) (w : World) (a : Option Addr) (bs : List UInt8) : Prop :=
  bs.length ≤ 140737488351232 ∧ (bs ≠ [] → ∃ b cur, a = some ⟨b, 0, none⟩ ∧ ok b ∧ w.heap[b]? = some (.cells cur 5 (0, 0)) ∧ ∀ i, i < bs.length → cur[i]? = some (.int .u8 ((bs[i]?.getD 0).toNat : Int)))
theorem TBo.nil {ok : Nat → Prop} {w : World} {a : Option Addr} : TBo ok w a [] := ⟨by simp, fun h => absurd rfl h⟩
theorem TBo.rb {ok : Nat → Prop} {w : World} {a : Option Addr} {bs : List UInt8} (h : TBo ok w a bs) : RBo ok w a bs :=
  ⟨h.1, fun hn => by
    obtain ⟨b, cur, e, ho, hh, hc⟩ := h.2 hn
    refine ⟨b, 0, e, ho, (Array.getElem?_eq_some_iff.1 hh).1, fun i hi => ?_⟩
    rw [Nat.zero_add, ← hc i hi]
    exact Blk.cell (t := 5) hh i⟩
theorem TBo.weak {ok ok' : Nat → Prop} {w : World} {a : Option Addr} {bs : List UInt8} (h : TBo ok w a bs) (hk : ∀ k, ok k → ok' k) : TBo ok' w a bs :=
  ⟨h.1, fun hn => by
    obtain ⟨b, cur, e, ho, hh, hc⟩ := h.2 hn
    exact ⟨b, cur, e, hk b ho, hh, hc⟩⟩
theorem TBo.keep {ok : Nat → Prop} {w w' : World} {a : Option Addr} {bs : List UInt8} (h : TBo ok w a bs) (hk : Keep ok w w') : TBo ok w' a bs :=
  ⟨h.1, fun hn => by
    obtain ⟨b, cur, e, ho, hh, hc⟩ := h.2 hn
    exact ⟨b, cur, e, ho, (hk.block b ho (Array.getElem?_eq_some_iff.1 hh).1).trans hh, hc⟩⟩

/-- The blocks that are left for a term's kids. -/
def Left (P : Nat → Prop) (b : Nat) (a : Option Addr) : Nat → Prop := fun k => P k ∧ k ≠ b ∧ some k ≠ a.map (·.block)

mutual
/-- A value reads as a term, in blocks that are so; no two of its parts share one. -/
def Tree (w : World) : Tm → (Nat → Prop) → Value → Prop
  | .mk k c t ks, P, v => ∃ a1 c1 a2 c2, v = .agg #[.int .i64 k, .string c, .slice a1 t.length c1, .slice a2 ks.length c2] ∧ (-9223372036854775808 ≤ k ∧ k ≤ 9223372036854775807) ∧ c.size ≤ 140737488351232 ∧ TBo P w a1 t ∧
      ks.length ≤ 140737488351232 ∧ (ks ≠ [] → ∃ b cur, a2 = some ⟨b, 0, none⟩ ∧ P b ∧ w.heap[b]? = some (.cells cur 25 (0, 0)) ∧ ks.length * 4 ≤ cur.size ∧ some b ≠ a1.map (·.block) ∧ Trees w b 0 ks (Left P b a1))
/-- Terms one behind the other. -/
def Trees (w : World) (b : Nat) : Nat → List Tm → (Nat → Prop) → Prop
  | _, [], _ => True
  | o, x :: xs, P => ∃ v0 v1 v2 v3 Q, (w.cell? ⟨b, o, none⟩ = some v0 ∧ w.cell? ⟨b, o + 1, none⟩ = some v1 ∧ w.cell? ⟨b, o + 2, none⟩ = some v2 ∧ w.cell? ⟨b, o + 3, none⟩ = some v3) ∧ Tree w x Q (.agg #[v0, v1, v2, v3]) ∧
      (∀ k, Q k → P k) ∧ Trees w b (o + 4) xs (fun k => P k ∧ ¬ Q k)
end

mutual
theorem Tree.weak {w : World} : ∀ {T : Tm} {P P' : Nat → Prop} {v : Value}, (∀ k, P k → P' k) → Tree w T P v → Tree w T P' v
  | .mk k c t ks, P, P', v, hk, h => by
    rw [Tree] at h ⊢
    obtain ⟨a1, c1, a2, c2, e, h1, h2, h3, h4, h5⟩ := h
    refine ⟨a1, c1, a2, c2, e, h1, h2, h3.weak hk, h4, fun hn => ?_⟩
    obtain ⟨b, cur, e1, hb, hh, hs, hne, ht⟩ := h5 hn
    exact ⟨b, cur, e1, hk b hb, hh, hs, hne, Trees.weak (fun k hk2 => ⟨hk k hk2.1, hk2.2⟩) ht⟩
theorem Trees.weak {w : World} {b : Nat} : ∀ {ks : List Tm} {o : Nat} {P P' : Nat → Prop}, (∀ k, P k → P' k) → Trees w b o ks P → Trees w b o ks P'
  | [], _, _, _, _, _ => by rw [Trees]; trivial
  | x :: xs, o, P, P', hk, h => by
    rw [Trees] at h ⊢
    obtain ⟨v0, v1, v2, v3, Q, hc, hx, hq, hr⟩ := h
    exact ⟨v0, v1, v2, v3, Q, hc, hx, fun k hk2 => hk k (hq k hk2), Trees.weak (fun k hk2 => ⟨hk k hk2.1, hk2.2⟩) hr⟩
end
mutual
theorem Tree.keep {w w' : World} : ∀ {T : Tm} {P : Nat → Prop} {v : Value}, Keep P w w' → Tree w T P v → Tree w' T P v
  | .mk k c t ks, P, v, hk, h => by
    rw [Tree] at h ⊢
    obtain ⟨a1, c1, a2, c2, e, h1, h2, h3, h4, h5⟩ := h
    refine ⟨a1, c1, a2, c2, e, h1, h2, h3.keep hk, h4, fun hn => ?_⟩
    obtain ⟨b, cur, e1, hb, hh, hs, hne, ht⟩ := h5 hn
    have hlt : b < w.heap.size := (Array.getElem?_eq_some_iff.1 hh).1
    exact ⟨b, cur, e1, hb, (hk.block b hb hlt).trans hh, hs, hne, Trees.keep (⟨hk.size, fun k h2 => hk.block k h2.1⟩ : Keep (Left P b a1) w w') (fun i _ _ => hk.cell hb hlt i) ht⟩
theorem Trees.keep {w w' : World} {b : Nat} : ∀ {ks : List Tm} {o : Nat} {P : Nat → Prop}, Keep P w w' → (∀ i, o ≤ i → i < o + ks.length * 4 → w'.cell? ⟨b, i, none⟩ = w.cell? ⟨b, i, none⟩) → Trees w b o ks P → Trees w' b o ks P
  | [], _, _, _, _, _ => by rw [Trees]; trivial
  | x :: xs, o, P, hk, hc, h => by
    rw [Trees] at h ⊢
    obtain ⟨v0, v1, v2, v3, Q, ⟨e0, e1, e2, e3⟩, hx, hq, hr⟩ := h
    have hl : (x :: xs).length = xs.length + 1 := rfl
    refine ⟨v0, v1, v2, v3, Q, ⟨(hc o (by omega) (by omega)).trans e0, (hc _ (by omega) (by omega)).trans e1, (hc _ (by omega) (by omega)).trans e2, (hc _ (by omega) (by omega)).trans e3⟩,
      Tree.keep ⟨hk.size, fun k h2 => hk.block k (hq k h2)⟩ hx, hq, Trees.keep ⟨hk.size, fun k h2 => hk.block k h2.1⟩ (fun i h1 h2 => hc i (by omega) (by omega)) hr⟩
end
mutual
theorem Tree.rt {w : World} : ∀ {T : Tm} {P : Nat → Prop} {v : Value}, Tree w T P v → RTo P w T v
  | .mk k c t ks, P, v, h => by
    rw [Tree] at h
    rw [RTo]
    obtain ⟨a1, c1, a2, c2, e, h1, h2, h3, h4, h5⟩ := h
    refine ⟨a1, c1, a2, c2, e, h1, h2, h3.rb, h4, fun hn => ?_⟩
    obtain ⟨b, cur, e1, hb, hh, hs, hne, ht⟩ := h5 hn
    exact ⟨b, 0, e1, hb, (Array.getElem?_eq_some_iff.1 hh).1, RTos.weak (fun k h => h.1) (Trees.rt ht)⟩
theorem Trees.rt {w : World} {b : Nat} : ∀ {ks : List Tm} {o : Nat} {P : Nat → Prop}, Trees w b o ks P → RTos P w b o ks
  | [], _, _, _ => by rw [RTos]; trivial
  | x :: xs, o, P, h => by
    rw [Trees] at h
    rw [RTos]
    obtain ⟨v0, v1, v2, v3, Q, ⟨e0, e1, e2, e3⟩, hx, hq, hr⟩ := h
    exact ⟨⟨v0, v1, v2, v3, e0, e1, e2, e3, RTo.weak hq (Tree.rt hx)⟩, RTos.weak (fun k h => h.1) (Trees.rt hr)⟩
end
/-- One more behind them. -/
theorem Trees.snoc {w : World} {b : Nat} {x : Tm} {v0 v1 v2 v3 : Value} {Q : Nat → Prop} (hx : Tree w x Q (.agg #[v0, v1, v2, v3])) :
    ∀ {ks : List Tm} {o : Nat} {P P' : Nat → Prop}, Trees w b o ks P → (∀ k, P k → P' k) → (∀ k, Q k → P' k ∧ ¬ P k) →
      w.cell? ⟨b, o + ks.length * 4, none⟩ = some v0 → w.cell? ⟨b, o + ks.length * 4 + 1, none⟩ = some v1 → w.cell? ⟨b, o + ks.length * 4 + 2, none⟩ = some v2 → w.cell? ⟨b, o + ks.length * 4 + 3, none⟩ = some v3 → Trees w b o (ks ++ [x]) P'
  | [], o, P, P', h, hp, hq, e0, e1, e2, e3 => by
    rw [List.nil_append, Trees]
    refine ⟨v0, v1, v2, v3, Q, ⟨by simpa using e0, by simpa using e1, by simpa using e2, by simpa using e3⟩, hx, fun k hk => (hq k hk).1, ?_⟩
    rw [Trees]; trivial
  | y :: ys, o, P, P', h, hp, hq, e0, e1, e2, e3 => by
    rw [Trees] at h
    rw [List.cons_append, Trees]
    obtain ⟨u0, u1, u2, u3, R, hc, hy, hr, ht⟩ := h
    have hl : (y :: ys).length = ys.length + 1 := rfl
    rw [hl] at e0 e1 e2 e3
    refine ⟨u0, u1, u2, u3, R, hc, hy, fun k hk => hp k (hr k hk), Trees.snoc hx ht (fun k hk => ⟨hp k hk.1, hk.2⟩) (fun k hk => ⟨⟨(hq k hk).1, fun hR => (hq k hk).2 (hr k hR)⟩, fun h2 => (hq k hk).2 h2.1⟩) ?_ ?_ ?_ ?_⟩
    · rw [← e0]; congr 2; omega
    · rw [← e1]; congr 2; omega
    · rw [← e2]; congr 2; omega
    · rw [← e3]; congr 2; omega
/-- One of them, and the others without it. -/
theorem Trees.at_ {w : World} {b : Nat} {ok : Nat → Prop} : ∀ {ks : List Tm} {o : Nat} {P : Nat → Prop} (j : Nat) (hj : j < ks.length), (∀ k, P k → ok k) → Trees w b o ks P →
    ∃ v0 v1 v2 v3 Q, (w.cell? ⟨b, o + j * 4, none⟩ = some v0 ∧ w.cell? ⟨b, o + j * 4 + 1, none⟩ = some v1 ∧ w.cell? ⟨b, o + j * 4 + 2, none⟩ = some v2 ∧ w.cell? ⟨b, o + j * 4 + 3, none⟩ = some v3) ∧
      Tree w ks[j] Q (.agg #[v0, v1, v2, v3]) ∧ (∀ k, Q k → P k) ∧
      ∀ (w' : World) (S : Tm) (s0 s1 s2 s3 : Value), Keep (fun k => P k ∧ ¬ Q k) w w' → (∀ i, o ≤ i → i < o + ks.length * 4 → (i < o + j * 4 ∨ o + j * 4 + 4 ≤ i) → w'.cell? ⟨b, i, none⟩ = w.cell? ⟨b, i, none⟩) →
        w'.cell? ⟨b, o + j * 4, none⟩ = some s0 → w'.cell? ⟨b, o + j * 4 + 1, none⟩ = some s1 → w'.cell? ⟨b, o + j * 4 + 2, none⟩ = some s2 → w'.cell? ⟨b, o + j * 4 + 3, none⟩ = some s3 →
        RTo ok w' S (.agg #[s0, s1, s2, s3]) → RTos ok w' b o (ks.set j S)
  | [], _, _, j, hj, _, _ => absurd hj (by simp)
  | x :: xs, o, P, 0, hj, hok, h => by
    rw [Trees] at h
    obtain ⟨v0, v1, v2, v3, Q, hc, hx, hq, hr⟩ := h
    refine ⟨v0, v1, v2, v3, Q, by simpa using hc, hx, hq, fun w' S s0 s1 s2 s3 hk hcs e0 e1 e2 e3 hS => ?_⟩
    rw [List.set_cons_zero, RTos]
    have hl : (x :: xs).length = xs.length + 1 := rfl
    refine ⟨⟨s0, s1, s2, s3, by simpa using e0, by simpa using e1, by simpa using e2, by simpa using e3, hS⟩, ?_⟩
    exact RTos.weak (fun k hk => hok k hk.1) (Trees.rt (Trees.keep hk (fun i h1 h2 => hcs i (by omega) (by omega) (by omega)) hr))
  | x :: xs, o, P, j + 1, hj, hok, h => by
    rw [Trees] at h
    obtain ⟨v0, v1, v2, v3, R, ⟨c0, c1, c2, c3⟩, hx, hq, hr⟩ := h
    have hl : (x :: xs).length = xs.length + 1 := rfl
    obtain ⟨u0, u1, u2, u3, Q, hc, hu, hQ, hput⟩ := Trees.at_ (ok := ok) j (by simpa using hj) (fun k hk => hok k hk.1) hr
    have ho : o + (j + 1) * 4 = o + 4 + j * 4 := by omega
    refine ⟨u0, u1, u2, u3, Q, by rw [ho]; exact hc, hu, fun k hk => (hQ k hk).1, fun w' S s0 s1 s2 s3 hk hcs e0 e1 e2 e3 hS => ?_⟩
    rw [ho] at e0 e1 e2 e3
    rw [List.set_cons_succ, RTos]
    refine ⟨⟨v0, v1, v2, v3, (hcs o (by omega) (by omega) (by omega)).trans c0, (hcs _ (by omega) (by omega) (by omega)).trans c1, (hcs _ (by omega) (by omega) (by omega)).trans c2, (hcs _ (by omega) (by omega) (by omega)).trans c3, ?_⟩, ?_⟩
    · exact RTo.weak (fun k hk => hok k (hq k hk)) (Tree.rt (Tree.keep ⟨hk.size, fun k h2 => hk.block k ⟨hq k h2, fun h3 => (hQ k h3).2 h2⟩⟩ hx))
    · exact hput w' S s0 s1 s2 s3 ⟨hk.size, fun k h2 => hk.block k ⟨h2.1.1, h2.2⟩⟩ (fun i h1 h2 h3 => hcs i (by omega) (by omega) (by omega)) e0 e1 e2 e3 hS
end Go.Proofs.Ytfndldfnlncabaa
