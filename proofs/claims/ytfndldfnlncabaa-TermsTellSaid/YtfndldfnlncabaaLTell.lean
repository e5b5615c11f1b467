/- The law TermsTell, walked. -/
import Derived.Test.YtfndldfnlncabaaLex
import Derived.Test.YtfndldfnlncabaaAlive
import Derived.Test.YtfndldfnlncabaaParts
import Derived.Test.YtfndldfnlncabaaLSame
import Derived.Test.YtfndldfnlncabaaRWell
import Derived.Deep.QuietTactic
import Derived.BigQuiet
set_option linter.unusedVariables false
set_option linter.unusedSimpArgs false
set_option linter.unnecessarySimpa false
set_option linter.deprecated false
namespace Go.Proofs.Ytfndldfnlncabaa
open Go.RowKit

theorem shape22 {w : World} {B n : Nat} {v : Value} {xs : List Value} (h : w.ownsRow B 22 1 v n xs) : ∃ a c, v = .slice a n c ∧ (n ≠ 0 → ∃ g cur, a = some ⟨g, 0, none⟩ ∧ B ≤ g ∧ w.heap[g]? = some (Obj.cells cur 22 (0, 0)) ∧ ∀ (j : Nat) (u : Value), xs[j]? = some u → cur[j]? = some u) := by
  rcases h.2 with ⟨rfl, h0⟩ | ⟨g, cap, cur, rfl, hB, hh, hn, _, hsz, htk⟩
  · exact ⟨none, 0, by rw [h0], fun h => absurd h0 h⟩
  · refine ⟨_, cap, rfl, fun _ => ⟨g, cur, rfl, hB, hh, fun j u hj => ?_⟩⟩
    have hl := (List.getElem?_eq_some_iff.1 hj).1
    have h1 := h.1
    rw [← Array.getElem?_toList, ← hj, ← htk]
    rw [List.getElem?_take_of_lt (by omega)]
theorem RX.get {ok : Nat → Prop} {w : World} : ∀ {ts : List (List UInt8)} {xs : List Value}, RX ok w ts xs → ∀ i (hi : i < ts.length), ∃ a c, xs[i]? = some (.slice a ts[i].length c) ∧ RBo ok w a ts[i]
  | [], xs, h, i, hi => by simp at hi
  | t :: ts, xs, h, 0, _ => by
    obtain ⟨a, c, ys, rfl, hb, _⟩ := h
    exact ⟨a, c, rfl, hb⟩
  | t :: ts, xs, h, i + 1, hi => by
    obtain ⟨a, c, ys, rfl, hb, hr⟩ := h
    have := RX.get hr i (by simpa using hi)
    simpa using this
/-- What stands at the head of a round. -/
structure TlRel (B : Nat) (wd : World) (L : List (List UInt8)) (xa : List Value) (k : Nat) (wr : World) : Prop where
  wrote : Wrote (fun j t => B ≤ j ∧ t = 5) wd wr
  rest : ∃ P, LX wr P (L.drop k) (xa.drop k) ∧ (∀ j, P j → B ≤ j ∧ j < wd.heap.size)
  le : k ≤ L.length
/-- What stands at the head of an inner round. -/
structure TlIn (B : Nat) (wd : World) (L : List (List UInt8)) (xa : List Value) (k : Nat) (P : Nat → Prop) (m tb j : Nat) (wr : World) : Prop where
  wrote : Wrote (fun j t => B ≤ j ∧ t = 5) wd wr
  rest : LX wr P (L.drop (k + 1)) (xa.drop (k + 1))
  text : m ≠ 0 → ∃ cur, wr.heap[tb]? = some (Obj.cells cur 5 (0, 0)) ∧ m ≤ cur.size
  le : j ≤ m
theorem TlIn.put {B : Nat} {wd : World} {L : List (List UInt8)} {xa : List Value} {k : Nat} {P : Nat → Prop} {m tb j : Nat} {wr : World} (h : TlIn B wd L xa k P m tb j wr) (hm : j < m) (hB : B ≤ tb) (hP : ¬ P tb) (v : Value) : TlIn B wd L xa k P m tb (j + 1) (wr.setCell ⟨tb, j, none⟩ v) := by
  obtain ⟨cur, hc, hs⟩ := h.text (by omega)
  refine ⟨h.wrote.trans (Wrote.set _ _ hc ⟨hB, rfl⟩), LX.map (fun i c hi hh => (Below.heap_setCell _ _ _ _ (by show i ≠ tb; rintro rfl; exact hP hi)).trans hh) h.rest, fun _ => ⟨cur.setIfInBounds j v, ?_, by simpa using hs⟩, by omega⟩
  simp only [World.setCell, Array.getElem?_modify, hc]
  simp
/-- What stands behind the two calls of Lexemes. -/
structure S6 (w W5 : World) (L : List (List UInt8)) (aa : Option Addr) (ca : Nat) (ab : Option Addr) (cb : Nat) (W : World) : Prop where
  below : Below W5.heap.size W5 W
  a : ∃ xa P, W.ownsRow W5.heap.size 22 1 (.slice aa L.length ca) L.length xa ∧ LX W P L xa ∧ (∀ k, P k → W5.heap.size ≤ k ∧ k < W.heap.size)
  b : ∃ xb, W.ownsRow W5.heap.size 22 1 (.slice ab L.length cb) L.length xb ∧ RX (fun k => k < w.heap.size) W L xb
theorem s6_ab {w w5 W w6 w7 : World} {L : List (List UInt8)} {aa : Option Addr} {ca : Nat} {ab : Option Addr} {cb : Nat} (h5 : Below w5.heap.size w5 W) (ha : ∃ xa P, w6.ownsRow w5.heap.size 22 1 (.slice aa L.length ca) L.length xa ∧ LX w6 P L xa ∧ (∀ k, P k → w5.heap.size ≤ k ∧ k < w6.heap.size)) (hba : Below W.heap.size W w6)
    (hb : ∃ xb, w7.ownsRow w5.heap.size 22 1 (.slice ab L.length cb) L.length xb ∧ RX (fun k => k < w.heap.size) w7 L xb) (hbb : Below w6.heap.size w6 w7) : S6 w w5 L aa ca ab cb w7 := by
  obtain ⟨xa, P, h1, h2, h3⟩ := ha
  have hs := hbb.size
  exact ⟨(below_next h5 hba).trans (hbb.mono (below_next h5 hba).size), ⟨xa, P, own_below h1 hbb, LX.map (fun k c hk e => (hbb.block k (h3 k hk).2).trans e) h2, fun k hk => ⟨(h3 k hk).1, by have := (h3 k hk).2; omega⟩⟩, hb⟩
theorem ownS {w : World} {B B' : Nat} {e : TypeId} {size n : Nat} {v : Value} {xs : List Value} (h : w.ownsRow B e size v n xs) (hB : B' ≤ B) : w.ownsRow B' e size v n xs :=
  ⟨h.1, h.2.imp id (fun ⟨g, cap, cur, e1, e2, e3⟩ => ⟨g, cap, cur, e1, by omega, e3⟩)⟩

set_option maxHeartbeats 8000000 in
set_option maxRecDepth 100000 in
theorem law_tell (T : Tm) (v : Value) (w : World) (hT : RT w T v) : Calls Try.prog 11 #[v] w fun e w' => e = .returned (.bool true) ∧ Below w.heap.size w w' := by
  obtain ⟨a1, c1, a2, c2, rfl, _, _, _, _⟩ := hT.open
  have HA := hide (fun W => alive_any W)
  have HT := hide (fun W (h : Below w.heap.size w W) => RTo.keep (keep_below h) (RTo.low hT))
  have HV1 := hide (fun W h => heavy_any T (.agg #[.int .i64 T.kind, .string T.cons, .slice a1 T.text.length c1, .slice a2 T.kids.length c2]) W h)
  have HB := hide (show Below w.heap.size w (w.alloc (.cells #[.int .i64 T.kind, .string T.cons, .slice a1 T.text.length c1, .slice a2 T.kids.length c2] 25)) from (Below.refl _ w).alloc (Nat.le_refl _) _)
  have KT := hide (Blk.new w #[.int .i64 T.kind, .string T.cons, .slice a1 T.text.length c1, .slice a2 T.kids.length c2] 25)
  clear hT
  cases h1 : heavyB T with
  | true =>
    rw [h1] at HV1
    go_enter Try.func11, Try.ntmps11
    go_wp2_with fail
    refine (HV1.out _ (HT.out _ HB.out).to).mono ?_
    rintro e w1 ⟨rfl, hb⟩
    replace HB := hide (below_next HB.out hb)
    clear hb KT
    go_wp2_with fail
    refine (HA.out _).mono ?_
    rintro e w2 ⟨rfl, hb⟩
    replace HB := hide (below_next HB.out hb)
    clear hb
    go_wp2_with fail
    go_ret
    exact ⟨rfl, HB.out⟩
  | false =>
    rw [h1] at HV1
    have HC := hide (cnt_of_heavy h1)
    clear h1
    have HTT := hide ((sameB_eq T T).2 rfl)
    go_enter Try.func11, Try.ntmps11
    go_wp2_with fail
    refine (HV1.out _ (HT.out _ HB.out).to).mono ?_
    rintro e w1 ⟨rfl, hb⟩
    replace HB := hide (below_next HB.out hb)
    replace KT := hide (KT.out.below hb)
    clear hb HV1
    have e0 := KT.out.cell 0
    have e1 := KT.out.cell 1
    have e2 := KT.out.cell 2
    have e3 := KT.out.cell 3
    have el := KT.out.lt
    go_wp2_with fail
    refine (copyT_any T (by have := HC.out; omega) _ _ (HT.out _ HB.out).to).mono ?_
    rintro e w2 ⟨⟨v', rfl, ht⟩, hb⟩
    have htl := ht.low
    obtain ⟨o1, m1, o2, m2, rfl, _, _, _, _⟩ := ht.rt.open
    have hn := below_next hb ((Below.refl w2.heap.size w2).alloc (Nat.le_refl _) (.cells #[.int .i64 T.kind, .string T.cons, .slice o1 T.text.length m1, .slice o2 T.kids.length m2] 25))
    replace HB := hide (below_next HB.out hn)
    replace KT := hide (KT.out.below hn)
    have KO := hide (Blk.new w2 #[.int .i64 T.kind, .string T.cons, .slice o1 T.text.length m1, .slice o2 T.kids.length m2] 25)
    have TO := hide (RTo.keep (keep_below ((Below.refl w2.heap.size w2).alloc (Nat.le_refl _) (.cells #[.int .i64 T.kind, .string T.cons, .slice o1 T.text.length m1, .slice o2 T.kids.length m2] 25))) (RTo.low ht.rt.to))
    clear hb hn ht htl e0 e1 e2 e3 el
    have e0 := KO.out.cell 0
    have e1 := KO.out.cell 1
    have e2 := KO.out.cell 2
    have e3 := KO.out.cell 3
    have el := KO.out.lt
    go_wp2_with fail
    refine (size_any T (by have := HC.out; omega) _ _ TO.out.to).mono ?_
    rintro e w4 ⟨rfl, hb⟩
    replace HB := hide (below_next HB.out hb)
    replace KT := hide (KT.out.below hb)
    replace KO := hide (KO.out.below hb)
    replace TO := hide (RTo.keep (keep_below hb) TO.out)
    clear hb e0 e1 e2 e3 el
    have e0 := KT.out.cell 0
    have e1 := KT.out.cell 1
    have e2 := KT.out.cell 2
    have e3 := KT.out.cell 3
    have el := KT.out.lt
    obtain ⟨N, hN⟩ : ∃ N, (cnt T : Int) = N := ⟨_, rfl⟩
    obtain ⟨D, hD⟩ : ∃ D, (dep T : Int) = D := ⟨_, rfl⟩
    have HN := hide hN
    have HD := hide hD
    rw [hN, hD]
    clear hN hD
    go_wp2_with fail
    refine (rsize_any T (by have := HC.out; omega) _ _ (HT.out _ HB.out).to).mono ?_
    rintro e w5 ⟨rfl, hb⟩
    rw [HN.out, HD.out]
    replace HB := hide (below_next HB.out hb)
    replace KT := hide (KT.out.below hb)
    replace KO := hide (KO.out.below hb)
    replace TO := hide (RTo.keep (keep_below hb) TO.out)
    clear hb e0 e1 e2 e3 el
    obtain ⟨L, hL⟩ : ∃ L, lexL (pre T) = L := ⟨_, rfl⟩
    have hLl : L.length ≤ 1000 := by
      rw [← hL]
      have h1 := lexL_len (pre T)
      rw [pre_len] at h1
      have := HC.out
      omega
    have HCL := hide (fun W h => lexemes_any T (by have := HC.out; omega) (.agg #[.int .i64 T.kind, .string T.cons, .slice o1 T.text.length m1, .slice o2 T.kids.length m2]) W h)
    have HCR := hide (fun W h1 h2 => rlexemes_any T (by have := HC.out; omega) (fun k => k < w.heap.size) (.agg #[.int .i64 T.kind, .string T.cons, .slice a1 T.text.length c1, .slice a2 T.kids.length c2]) W h1 h2)
    unfold LexP at HCL
    unfold RLexP at HCR
    rw [hL] at HCL HCR
    clear hL
    have HXA := hide (show ∀ W, Below w5.heap.size w5 W → Calls Try.prog 31 #[.agg #[.int .i64 T.kind, .string T.cons, .slice o1 T.text.length m1, .slice o2 T.kids.length m2]] W fun e W' => ∃ aa ca, e = .returned (.slice aa L.length ca) ∧ Hid (∃ xa P, W'.ownsRow w5.heap.size 22 1 (.slice aa L.length ca) L.length xa ∧ LX W' P L xa ∧ (∀ k, P k → w5.heap.size ≤ k ∧ k < W'.heap.size)) ∧ Hid (Below W.heap.size W W') from fun W hW => by
      refine (HCL.out W (RTo.keep (keep_below hW) TO.out).to).mono ?_
      rintro e W' ⟨v, xs, rfl, h1, h2, h3⟩
      obtain ⟨a, c, rfl, _⟩ := shape22 h1
      have := hW.size
      exact ⟨a, c, rfl, ⟨xs, _, ownS h1 (by omega), h2, fun k hk => ⟨by omega, hk.2⟩⟩, h3⟩)
    have HXB := hide (show ∀ W, Below w5.heap.size w5 W → Calls Try.prog 32 #[.agg #[.int .i64 T.kind, .string T.cons, .slice a1 T.text.length c1, .slice a2 T.kids.length c2]] W fun e W' => ∃ ab cb, e = .returned (.slice ab L.length cb) ∧ Hid (∃ xb, W'.ownsRow w5.heap.size 22 1 (.slice ab L.length cb) L.length xb ∧ RX (fun k => k < w.heap.size) W' L xb) ∧ Hid (Below W.heap.size W W') from fun W hW => by
      refine (HCR.out W (fun k hk => Nat.lt_of_lt_of_le hk (HB.out.trans (hW.mono HB.out.size)).size) (HT.out _ (HB.out.trans (hW.mono HB.out.size)))).mono ?_
      rintro e W' ⟨v, xs, rfl, h1, h2, h3⟩
      obtain ⟨a, c, rfl, _⟩ := shape22 h1
      have := hW.size
      exact ⟨a, c, rfl, ⟨xs, ownS h1 (by omega), h2⟩, h3⟩)
    have HK1 := hide (show ∀ W, Below w5.heap.size w5 W → Below w5.heap.size w5 W ∧ W.cell? ⟨w.heap.size, 0, none⟩ = some (.int .i64 T.kind) ∧ W.cell? ⟨w.heap.size, 1, none⟩ = some (.string T.cons) ∧ W.cell? ⟨w.heap.size, 2, none⟩ = some (.slice a1 T.text.length c1) ∧ W.cell? ⟨w.heap.size, 3, none⟩ = some (.slice a2 T.kids.length c2) ∧ W.cell? ⟨w2.heap.size, 0, none⟩ = some (.int .i64 T.kind) ∧ W.cell? ⟨w2.heap.size, 1, none⟩ = some (.string T.cons) ∧ W.cell? ⟨w2.heap.size, 2, none⟩ = some (.slice o1 T.text.length m1) ∧ W.cell? ⟨w2.heap.size, 3, none⟩ = some (.slice o2 T.kids.length m2) from fun W h => by
      have k1 := KT.out.below h
      have k2 := KO.out.below h
      exact ⟨h, k1.cell 0, k1.cell 1, k1.cell 2, k1.cell 3, k2.cell 0, k2.cell 1, k2.cell 2, k2.cell 3⟩)
    have HKN := hide (fun (W W' : World) (h : Below w5.heap.size w5 W) (h' : Below W.heap.size W W') => HK1.out W' (h.trans (h'.mono h.size)))
    have hd := HK1.out w5.drew (Below.drew (Below.refl _ _))
    go_upto_region 6 with fail
    go_cut [8, 9] (fun v8 v9 wc => ∃ aa ca ab cb, v8 = .slice aa L.length ca ∧ v9 = .slice ab L.length cb ∧ Hid (S6 w w5 L aa ca ab cb wc))
    case first =>
      go_region_held3 (fun W => Below w5.heap.size w5 W ∧ W.cell? ⟨w.heap.size, 0, none⟩ = some (.int .i64 T.kind) ∧ W.cell? ⟨w.heap.size, 1, none⟩ = some (.string T.cons) ∧ W.cell? ⟨w.heap.size, 2, none⟩ = some (.slice a1 T.text.length c1) ∧ W.cell? ⟨w.heap.size, 3, none⟩ = some (.slice a2 T.kids.length c2) ∧ W.cell? ⟨w2.heap.size, 0, none⟩ = some (.int .i64 T.kind) ∧ W.cell? ⟨w2.heap.size, 1, none⟩ = some (.string T.cons) ∧ W.cell? ⟨w2.heap.size, 2, none⟩ = some (.slice o1 T.text.length m1) ∧ W.cell? ⟨w2.heap.size, 3, none⟩ = some (.slice o2 T.kids.length m2))
        (first | exact hd | exact HKN.out _ _ (And.left (by assumption)) (Hid.out (by assumption)))
        (first
          | (go_at_call 31; with_reducible refine (HXA.out _ (And.left (by assumption))).mono ?_; rintro e w6 ⟨aa, ca, rfl, hpa, hba⟩)
          | (go_at_call 32; with_reducible refine (HXB.out _ (And.left (by assumption))).mono ?_; rintro e w7 ⟨ab, cb, rfl, hpb, hbb⟩))
      go_wp2_with fail
      go_meet
      exact ⟨_, _, _, _, rfl, rfl, s6_ab (Below.drew (Below.refl _ _)) hpa.out hba.out hpb.out hbb.out⟩
    case rest =>
      obtain ⟨aa, ca, ab, cb, rfl, rfl, hcut⟩ := hcut
      obtain ⟨w6, hw6⟩ : ∃ x, x = wc := ⟨_, rfl⟩
      subst hw6
      have HS6 := hide hcut
      clear hd HXA HXB HCL HCR
      have HRA := hide (show ∀ W, Below w6.heap.size w6 W → Calls Try.prog 18 #[.agg #[.int .i64 T.kind, .string T.cons, .slice o1 T.text.length m1, .slice o2 T.kids.length m2]] W fun e w' => e = .returned (.bool (rightB 200 T)) ∧ Hid (Below W.heap.size W w') from fun W h => Right_any T _ W (RTo.keep (keep_below (hcut.out.below.trans (h.mono hcut.out.below.size))) TO.out).to)
      have HRB := hide (show ∀ W, Below w6.heap.size w6 W → Calls Try.prog 33 #[.agg #[.int .i64 T.kind, .string T.cons, .slice a1 T.text.length c1, .slice a2 T.kids.length c2]] W fun e w' => e = .returned (.bool (rightB 200 T)) ∧ Hid (Below W.heap.size W w') from fun W h => rright_any T (by have := HC.out; omega) _ W (HT.out _ (HB.out.trans ((hcut.out.below.trans (h.mono hcut.out.below.size)).mono HB.out.size))).to)
      have HKM := hide (show ∀ W, Below w6.heap.size w6 W → Below w6.heap.size w6 W ∧ W.cell? ⟨w.heap.size, 0, none⟩ = some (.int .i64 T.kind) ∧ W.cell? ⟨w.heap.size, 1, none⟩ = some (.string T.cons) ∧ W.cell? ⟨w.heap.size, 2, none⟩ = some (.slice a1 T.text.length c1) ∧ W.cell? ⟨w.heap.size, 3, none⟩ = some (.slice a2 T.kids.length c2) ∧ W.cell? ⟨w2.heap.size, 0, none⟩ = some (.int .i64 T.kind) ∧ W.cell? ⟨w2.heap.size, 1, none⟩ = some (.string T.cons) ∧ W.cell? ⟨w2.heap.size, 2, none⟩ = some (.slice o1 T.text.length m1) ∧ W.cell? ⟨w2.heap.size, 3, none⟩ = some (.slice o2 T.kids.length m2) from fun W h => ⟨h, (HK1.out W (hcut.out.below.trans (h.mono hcut.out.below.size))).2⟩)
      have HKP := hide (fun (W W' : World) (h : Below w6.heap.size w6 W) (h' : Below W.heap.size W W') => HKM.out W' (h.trans (h'.mono h.size)))
      have hd := HKM.out w6.drew (Below.drew (Below.refl _ _))
      obtain ⟨rb, hrb⟩ : ∃ r, rightB 200 T = r := ⟨_, rfl⟩
      rw [hrb] at HRA HRB
      clear hrb HK1 HKN
      go_upto_region 7 with fail
      go_cut [52] (fun v52 wd => v52 = .bool false ∧ Hid (Below w6.heap.size w6 wd))
      case first =>
        go_region_held3 (fun W => Below w6.heap.size w6 W ∧ W.cell? ⟨w.heap.size, 0, none⟩ = some (.int .i64 T.kind) ∧ W.cell? ⟨w.heap.size, 1, none⟩ = some (.string T.cons) ∧ W.cell? ⟨w.heap.size, 2, none⟩ = some (.slice a1 T.text.length c1) ∧ W.cell? ⟨w.heap.size, 3, none⟩ = some (.slice a2 T.kids.length c2) ∧ W.cell? ⟨w2.heap.size, 0, none⟩ = some (.int .i64 T.kind) ∧ W.cell? ⟨w2.heap.size, 1, none⟩ = some (.string T.cons) ∧ W.cell? ⟨w2.heap.size, 2, none⟩ = some (.slice o1 T.text.length m1) ∧ W.cell? ⟨w2.heap.size, 3, none⟩ = some (.slice o2 T.kids.length m2))
          (first | exact hd | exact HKP.out _ _ (And.left (by assumption)) (Hid.out (by assumption)))
          (first
            | (go_at_call 18; with_reducible refine (HRA.out _ (And.left (by assumption))).mono ?_; rintro e wx ⟨rfl, hba⟩)
            | (go_at_call 33; with_reducible refine (HRB.out _ (And.left (by assumption))).mono ?_; rintro e w7 ⟨rfl, hbb⟩))
        have HBF := hide (below_next (show Below w6.heap.size w6 wx from ⟨hba.out.os, hba.out.tape, hba.out.output, hba.out.size, hba.out.block⟩) hbb.out)
        go_wp2_with fail
        go_meet
        exact ⟨rfl, HBF.out⟩
      case rest =>
        obtain ⟨rfl, hcut2⟩ := hcut
        obtain ⟨wd, hwd⟩ : ∃ x, x = wc := ⟨_, rfl⟩
        subst hwd
        have hs5 : w5.heap.size ≤ w6.heap.size := HS6.out.below.size
        have hsd : w6.heap.size ≤ wd.heap.size := hcut2.out.size
        have h5d : Below w5.heap.size w5 wd := HS6.out.below.trans (hcut2.out.mono hs5)
        have hw5 : w.heap.size ≤ w5.heap.size := HB.out.size
        have hko := KO.out.lt
        replace KT := hide (KT.out.below h5d)
        replace KO := hide (KO.out.below h5d)
        replace TO := hide (RTo.keep (keep_below h5d) TO.out)
        replace HB := hide (HB.out.trans (h5d.mono hw5))
        obtain ⟨xa, P0, ha1, ha2, ha3⟩ := HS6.out.a
        obtain ⟨xb, hb1, hb2⟩ := HS6.out.b
        replace ha1 := own_below ha1 hcut2.out
        replace hb1 := own_below hb1 hcut2.out
        replace ha2 := LX.map (fun k c hk e => (hcut2.out.block k (ha3 k hk).2).trans e) ha2
        replace hb2 := RX.keep (w' := wd) ⟨hsd, fun k hk hl => hcut2.out.block k hl⟩ hb2
        have HA1 := hide ha1
        have HB1 := hide hb1
        have HB2 := hide hb2
        have HR0 := hide (show TlRel w5.heap.size wd L xa 0 wd from ⟨Wrote.refl _ _, ⟨P0, ha2, fun j hj => ⟨(ha3 j hj).1, by have := (ha3 j hj).2; omega⟩⟩, Nat.zero_le _⟩)
        clear ha1 ha2 ha3 hb1 hb2 h5d HS6 hcut2 hd HRA HRB HKM HKP
        go_wp2_with fail
        go_loopg [10] L.length (fun u v10 wr => ∃ k : Nat, Hid (u = L.length - k) ∧ v10 = .int .i64 (k : Int) ∧ Hid (TlRel w5.heap.size wd L xa k wr))
        case atStart => exact ⟨0, rfl, rfl, HR0⟩
        case round =>
          obtain ⟨k, hu, rfl, hr⟩ := hrel
          have hle := hr.out.le
          by_cases hlt : k < L.length
          · have hlti : (k : Int) < (L.length : Int) := by omega
            obtain ⟨_, _, ea, hga⟩ := shape22 HA1.out
            injection ea with ea1 _ ea3
            subst ea1 ea3
            obtain ⟨ga, cura, rfl, hgB, hgh, hgc⟩ := hga (by omega)
            obtain ⟨_, _, eb, hgb⟩ := shape22 HB1.out
            injection eb with eb1 _ eb3
            subst eb1 eb3
            obtain ⟨gb, curb, rfl, hgB2, hgh2, hgc2⟩ := hgb (by omega)
            obtain ⟨P, hlx, hPb⟩ := hr.out.rest
            rw [List.drop_eq_getElem_cons hlt, LX] at hlx
            obtain ⟨a, c, ys, Q, hxa, htb, hQ, hrest⟩ := hlx
            have hxk : xa[k]? = some (.slice a L[k].length c) := by
              have := congrArg List.head? hxa
              rwa [List.head?_drop] at this
            have hys : ys = xa.drop (k + 1) := by
              have := congrArg List.tail hxa
              rw [List.tail_drop] at this
              exact this.symm
            subst hys
            obtain ⟨b, cb', hxbk, hrb⟩ := HB2.out.get k hlt
            obtain ⟨M, hM⟩ : ∃ M, L[k].length = M := ⟨_, rfl⟩
            have hmM : M ≤ 140737488351232 := by rw [← hM]; exact htb.1
            have hwr := hr.out.wrote
            have hra : (wr.heap[ga]? = some (Obj.cells cura 22 (0, 0))) := hwr.block _ _ hgh (fun c t f e h => by injection e with _ e2 _; rw [← e2] at h; cases h.2)
            have hrb2 : (wr.heap[gb]? = some (Obj.cells curb 22 (0, 0))) := hwr.block _ _ hgh2 (fun c t f e h => by injection e with _ e2 _; rw [← e2] at h; cases h.2)
            have ca1 : wr.cell? ⟨ga, k, none⟩ = some (.slice a M c) := by rw [cell_at hra, ← hM]; exact hgc k _ hxk
            have cb1 : wr.cell? ⟨gb, k, none⟩ = some (.slice b M cb') := by rw [cell_at hrb2, ← hM]; exact hgc2 k _ hxbk
            have la1 := (Array.getElem?_eq_some_iff.1 hra).1
            have lb1 := (Array.getElem?_eq_some_iff.1 hrb2).1
            have hra3 : RB wr a L[k] := RBo.weak (fun _ _ => trivial) htb.rb
            have hrb3 : RB wr b L[k] := RBo.weak (fun _ _ => trivial) (RBo.keep (hwr.keep (fun i t hi h => by omega)) hrb)
            have hcv1 : ∀ q, (convert 22 9 (.slice a M c)).run Try.prog (wr.drewN q) = .ok (.string ⟨L[k].toArray⟩) (wr.drewN q) := fun q => RB.str (RBo.keep (Keep.refl _ _).drewNS hra3) M c hM.symm
            have hcv2 : ∀ q, (convert 22 9 (.slice b M cb')).run Try.prog (wr.drewN q) = .ok (.string ⟨L[k].toArray⟩) (wr.drewN q) := fun q => RB.str (RBo.keep (Keep.refl _ _).drewNS hrb3) M cb' hM.symm
            obtain ⟨tb, hta, hIn⟩ : ∃ tb, (M ≠ 0 → a = some ⟨tb, 0, none⟩) ∧ ∀ q, TlIn w5.heap.size wd L xa k (fun i => P i ∧ ¬ Q i ∧ i ≠ tb) M tb 0 (wr.drewN q) ∧ w5.heap.size ≤ tb := by
              by_cases h0 : M = 0
              · refine ⟨wd.heap.size, fun h => absurd h0 h, fun q => ⟨⟨hwr.trans (Wrote.draw _ _ _), LX.map (w := wr) (fun i c hi hh => hh) (LX.weak (P := fun k => P k ∧ ¬ Q k) (fun i hi => ⟨hi.1, hi.2, fun e => by have := (hPb i hi.1).2; omega⟩) hrest), fun h => absurd h0 h, Nat.zero_le _⟩, by omega⟩⟩
              · obtain ⟨tb, cur, e, hq, hh, hc⟩ := htb.2 (by intro h; rw [h] at hM; exact h0 hM.symm)
                refine ⟨tb, fun _ => e, fun q => ⟨⟨hwr.trans (Wrote.draw _ _ _), LX.map (w := wr) (fun i c hi hh => hh) (LX.weak (P := fun k => P k ∧ ¬ Q k) (fun i hi => ⟨hi.1, hi.2, fun e => hi.2 (by rw [e]; exact hq)⟩) hrest), fun _ => ⟨cur, hh, ?_⟩, Nat.zero_le _⟩, (hPb tb (hQ tb hq)).1⟩⟩
                have h1 := hc (M - 1) (by omega)
                have := (Array.getElem?_eq_some_iff.1 h1).1
                omega
            have HIN := hide hIn
            have HTA := hide hta
            have HHA := hide hgh
            have HGC := hide (hgc k _ hxk)
            have HMM := hide hM
            have HPB := hide hPb
            clear hIn hta hgh hgh2 hgc hgc2 hxk hxbk hrest hPb hQ htb hra hrb2 hra3 hrb3 hrb hwr hM hxa hr
            go_wp2_with fail
            go_quiet (fail)
            obtain ⟨wo, hwo⟩ : ∃ x, x = wr.drewN nq := ⟨_, rfl⟩
            rw [← hwo]
            have HI0 := hide (HIN.out nq).1
            have HTB := hide (HIN.out nq).2
            rw [← hwo] at HI0
            clear hwo ca1 cb1 hcv1 hcv2 HIN
            go_wp2_with fail
            go_loopg [11] M (fun u v11 wq => ∃ j : Nat, Hid (u = M - j) ∧ v11 = .int .i64 (j : Int) ∧ Hid (TlIn w5.heap.size wd L xa k (fun i => P i ∧ ¬ Q i ∧ i ≠ tb) M tb j wq))
            case atStart => exact ⟨0, rfl, rfl, HI0⟩
            case round =>
              obtain ⟨wq, hwq⟩ : ∃ x, x = wr := ⟨_, rfl⟩
              subst hwq
              obtain ⟨j, huj, rfl, hrj⟩ := hrel
              have hlej := hrj.out.le
              have hra : (wq.heap[ga]? = some (Obj.cells cura 22 (0, 0))) := hrj.out.wrote.block _ _ HHA.out (fun c t f e h => by injection e with _ e2 _; rw [← e2] at h; cases h.2)
              have ca2 : wq.cell? ⟨ga, k, none⟩ = some (.slice a M c) := by rw [cell_at hra, ← HMM.out]; exact HGC.out
              have la2 := (Array.getElem?_eq_some_iff.1 hra).1
              clear hra
              by_cases hltj : j < M
              · have hltji : (j : Int) < (M : Int) := by omega
                obtain rfl := HTA.out (by omega)
                obtain ⟨cur, hc, hs⟩ := hrj.out.text (by omega)
                have hn := hide (hrj.out.put hltj HTB.out (fun h => h.2.2 rfl) (.int .u8 99))
                obtain ⟨x, hx⟩ : ∃ x, cur[j]? = some x := ⟨_, Array.getElem?_eq_getElem (by omega)⟩
                have d0 : wq.cell? ⟨tb, j, none⟩ = some x := (Blk.cell (t := 5) hc j).trans hx
                have z0 : wq.frozen? ⟨tb, j, none⟩ = false := Blk.free (t := 5) hc j
                have dl := (Array.getElem?_eq_some_iff.1 hc).1
                clear hc hx hs
                go_wp2_with fail
                go_roundg (M - (j + 1))
                case measure => rw [huj.out]; omega
                case rel => exact ⟨j + 1, rfl, rfl, hn⟩
              · have hltji : ¬ (j : Int) < (M : Int) := by omega
                have HEND := hide (show TlRel w5.heap.size wd L xa (k + 1) wq from ⟨hrj.out.wrote, ⟨_, hrj.out.rest, fun i hi => HPB.out i hi.1⟩, hlt⟩)
                go_wp2_with fail
                go_roundg (L.length - (k + 1))
                case measure => rw [hu.out]; omega
                case rel => exact ⟨k + 1, rfl, rfl, HEND⟩
          · obtain rfl : k = L.length := by omega
            have hwr := hr.out.wrote
            replace KT := hide (hwr.kc.blk (fun h => by have := h.2; cases this) KT.out)
            replace KO := hide (hwr.kc.blk (fun h => by have := h.2; cases this) KO.out)
            replace TO := hide (RTo.keep (hwr.keep (fun i t hi h => by omega)) TO.out)
            replace HB := hide (HB.out.trans (hwr.below HB.out.size (fun i t h => by omega)))
            clear hwr hr HA1 HB1 HB2 HR0
            go_wp2_with fail
            refine (HA.out _).mono ?_
            rintro e w8 ⟨rfl, hb⟩
            replace HB := hide (below_next HB.out hb)
            replace KT := hide (KT.out.below hb)
            replace KO := hide (KO.out.below hb)
            replace TO := hide (RTo.keep (keep_below hb) TO.out)
            clear hb
            have e0 := KO.out.cell 0
            have e1 := KO.out.cell 1
            have e2 := KO.out.cell 2
            have e3 := KO.out.cell 3
            have el := KO.out.lt
            have f0 := KT.out.cell 0
            have f1 := KT.out.cell 1
            have f2 := KT.out.cell 2
            have f3 := KT.out.cell 3
            have fl := KT.out.lt
            have HRS := hide (rsame_any T T _ _ _ TO.out.to (HT.out _ HB.out).to)
            rw [HTT.out] at HRS
            go_wp2_with fail
            refine HRS.out.mono ?_
            rintro e w9 ⟨rfl, hb⟩
            replace HB := hide (below_next HB.out hb)
            clear hb e0 e1 e2 e3 el f0 f1 f2 f3 fl
            go_wp2_with fail
            go_ret
            exact ⟨rfl, HB.out⟩
end Go.Proofs.Ytfndldfnlncabaa
