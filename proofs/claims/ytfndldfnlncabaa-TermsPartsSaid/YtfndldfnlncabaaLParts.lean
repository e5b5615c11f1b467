/- The law TermsParts, walked. -/
import Derived.Test.YtfndldfnlncabaaRPut
import Derived.Test.YtfndldfnlncabaaSpoil
import Derived.Test.YtfndldfnlncabaaLPut
import Derived.Test.YtfndldfnlncabaaPath
set_option linter.unusedVariables false
set_option linter.unusedSimpArgs false
set_option linter.unnecessarySimpa false
set_option linter.deprecated false
namespace Go.Proofs.Ytfndldfnlncabaa
open Go.RowKit

section
open Go.ChangeShapes Go.WideShapes Go.ChangeAt
variable {H : Type} {enc : TypeId × Value → H} {w : World} {spare : Nat → Bool} {held : Bool}
set_option maxRecDepth 100000 in
/-- A path that is handed in has room for what it holds. -/
theorem open_pathc {base : Nat} {v : Value} {d : DataW H} {p : List MemPlace} (hv : Value.okWide Try.prog w .any base 37 v) (h : DataW.Trod enc Try.prog w 0 spare held 37 v d p)
    (hw : ∀ n ∈ DataW.weights Try.prog 37 d, n ≤ 140737488351232) : ∃ l, RVc w l v := by
  obtain ⟨l, a, c, rfl, hr⟩ := open_path hv h hw
  obtain ⟨fuel, hf⟩ := h
  have hcs : (Value.slice a l.length c).cells.toList = [.slice a l.length c] := rfl
  rw [hcs] at hf
  rcases open_ints Try.underlying37 Try.underlying3 (by kernel_rfl) hf with ⟨e, hd⟩ | ⟨x, len', cap', zs, e, hb, hl, _⟩
  · obtain ⟨h1, h2, h3⟩ : a = none ∧ l.length = 0 ∧ c = 0 := by simpa using e
    exact ⟨l, a, c, rfl, by omega, hr⟩
  · obtain ⟨h1, h2, h3⟩ : a = some x ∧ l.length = len' ∧ c = cap' := by simpa using e
    exact ⟨l, a, c, rfl, by omega, hr⟩
end
def zTm : Tm := .mk 0 emptyB [] []
def oT (r : Option Tm) : Tm := r.getD zTm
def oC (r : Option Tm) : Int := if r.isSome then 0 else 4
theorem tree_zero (w : World) (P : Nat → Prop) : Tree w zTm P zV := by
  unfold zTm
  rw [Tree]
  exact ⟨none, 0, none, 0, rfl, by omega, by decide, TBo.nil, by simp, fun h => absurd rfl h⟩
/-- A result with its number, whatever it is. -/
def UniT (A : Tm) (c : Int) (w : World) (e : Ending) (w' : World) : Prop :=
  ∃ a1 m1 a2 m2, e = .returned (.tuple #[.agg #[.int .i64 A.kind, .string A.cons, .slice a1 A.text.length m1, .slice a2 A.kids.length m2], .int .i64 c]) ∧
    Hid (Tree w' A (fun k => w.heap.size ≤ k ∧ k < w'.heap.size) (.agg #[.int .i64 A.kind, .string A.cons, .slice a1 A.text.length m1, .slice a2 A.kids.length m2])) ∧ Hid (Below w.heap.size w w')
def UniR (A : Tm) (c : Int) (w : World) (e : Ending) (w' : World) : Prop :=
  ∃ a1 m1 a2 m2, e = .returned (.tuple #[.agg #[.int .i64 A.kind, .string A.cons, .slice a1 A.text.length m1, .slice a2 A.kids.length m2], .int .i64 c]) ∧
    Hid (RTo (fun k => w.heap.size ≤ k) w' A (.agg #[.int .i64 A.kind, .string A.cons, .slice a1 A.text.length m1, .slice a2 A.kids.length m2])) ∧ Hid (Below w.heap.size w w')
theorem uni_at {w w' : World} {r : Option Tm} {e : Ending} (h : AtP w r e w') : UniT (oT r) (oC r) w e w' := by
  cases r with
  | none =>
    obtain ⟨h1, h2⟩ := h
    have h1 : e = .returned (.tuple #[zV, .int .i64 4]) := h1
    exact ⟨none, 0, none, 0, h1, tree_zero _ _, h2⟩
  | some U =>
    obtain ⟨⟨v', e1, ht⟩, h2⟩ := h
    have hl := ht.low
    obtain ⟨a1, m1, a2, m2, rfl, _, _, _, _⟩ := ht.rt.open
    exact ⟨a1, m1, a2, m2, e1, hl, h2⟩
theorem uni_put {w w' : World} {r : Option Tm} {e : Ending} (h : PutP w r e w') : UniR (oT r) (oC r) w e w' := by
  cases r with
  | none =>
    obtain ⟨h1, h2⟩ := h
    have h1 : e = .returned (.tuple #[zV, .int .i64 4]) := h1
    exact ⟨none, 0, none, 0, h1, (tree_zero w' _).rt, h2⟩
  | some U =>
    obtain ⟨⟨v', e1, ht⟩, h2⟩ := h
    have hl := ht
    obtain ⟨a1, m1, a2, m2, rfl, _, _, _, _⟩ := ht.open
    exact ⟨a1, m1, a2, m2, e1, hl, h2⟩
theorem below_wide {w W W' : World} (h : Below w.heap.size w W) (h' : Below W.heap.size W W') : Below w.heap.size w W' := h.trans (h'.mono h.size)
theorem Keep.mono {ok ok' : Nat → Prop} {w w' : World} (h : Keep ok w w') (hk : ∀ k, ok' k → ok k) : Keep ok' w w' := ⟨h.size, fun k h1 h2 => h.block k (hk k h1) h2⟩
theorem grow1 (W : World) (o : Obj) : Below W.heap.size W (W.alloc o) := (Below.refl W.heap.size W).alloc (Nat.le_refl _) o
theorem Tree.on {w W : World} {T : Tm} {lo hi : Nat} {v : Value} (h : Tree w T (fun k => lo ≤ k ∧ k < hi) v) (hb : Below w.heap.size w W) : Tree W T (fun k => lo ≤ k ∧ k < hi) v :=
  Tree.keep (keep_below hb) h
theorem RTo.on {ok : Nat → Prop} {w W : World} {T : Tm} {v : Value} (h : RTo ok w T v) (hb : Below w.heap.size w W) : RTo ok W T v :=
  RTo.keep (keep_below hb) h

set_option maxHeartbeats 8000000 in
set_option maxRecDepth 100000 in
theorem law_parts (T : Tm) (l : List Int) (S : Tm) (v u s : Value) (w : World) (hT : RT w T v) (hLc : RVc w l u) (hS : RT w S s) : Calls Try.prog 9 #[v, u, s] w fun e w' => e = .returned (.bool true) ∧ Below w.heap.size w w' := by
  obtain ⟨a1, c1, a2, c2, rfl, _, _, _, _⟩ := hT.open
  obtain ⟨b1, d1, b2, d2, rfl, _, _, _, _⟩ := hS.open
  have HA := hide (fun W => alive_any W)
  have HT := hide (fun W (h : Below w.heap.size w W) => RT.below h hT)
  have HS := hide (fun W (h : Below w.heap.size w W) => RT.below h hS)
  have HL := hide (fun W (h : Below w.heap.size w W) => hLc.below h)
  have HV1 := hide (fun W h => heavy_any T (.agg #[.int .i64 T.kind, .string T.cons, .slice a1 T.text.length c1, .slice a2 T.kids.length c2]) W h)
  have HV2 := hide (fun W h => heavy_any S (.agg #[.int .i64 S.kind, .string S.cons, .slice b1 S.text.length d1, .slice b2 S.kids.length d2]) W h)
  have HW := hide (two_boxes0 w (.cells #[.int .i64 T.kind, .string T.cons, .slice a1 T.text.length c1, .slice a2 T.kids.length c2] 25) (.cells #[.int .i64 S.kind, .string S.cons, .slice b1 S.text.length d1, .slice b2 S.kids.length d2] 25))
  have hbb : Blk ((w.alloc (.cells #[.int .i64 T.kind, .string T.cons, .slice a1 T.text.length c1, .slice a2 T.kids.length c2] 25)).alloc (.cells #[.int .i64 S.kind, .string S.cons, .slice b1 S.text.length d1, .slice b2 S.kids.length d2] 25)) w.heap.size #[.int .i64 T.kind, .string T.cons, .slice a1 T.text.length c1, .slice a2 T.kids.length c2] 25 ∧ Blk ((w.alloc (.cells #[.int .i64 T.kind, .string T.cons, .slice a1 T.text.length c1, .slice a2 T.kids.length c2] 25)).alloc (.cells #[.int .i64 S.kind, .string S.cons, .slice b1 S.text.length d1, .slice b2 S.kids.length d2] 25)) (w.heap.size + 1) #[.int .i64 S.kind, .string S.cons, .slice b1 S.text.length d1, .slice b2 S.kids.length d2] 25 := by
    refine ⟨(Blk.new w _ _).alloc _, ?_⟩
    have := Blk.new (w.alloc (.cells #[.int .i64 T.kind, .string T.cons, .slice a1 T.text.length c1, .slice a2 T.kids.length c2] 25)) #[.int .i64 S.kind, .string S.cons, .slice b1 S.text.length d1, .slice b2 S.kids.length d2] 25
    rw [World.size_alloc] at this
    exact this
  have KT := hide hbb.1
  have KS := hide hbb.2
  obtain ⟨al, cl, rfl, hcl, hRI⟩ := hLc
  obtain ⟨nl, hnl⟩ : ∃ n, l.length = n := ⟨_, rfl⟩
  have HNL := hide hnl
  have hlen := hRI.len
  rw [hnl] at hlen HL ⊢
  clear hnl hRI hT hS hbb hcl
  cases h1 : heavyB T with
  | true =>
    rw [h1] at HV1
    go_enter Try.func9, Try.ntmps9
    go_wp2_with fail
    refine (HV1.out _ (HT.out _ HW.out)).mono ?_
    rintro e w1 ⟨rfl, hb1⟩
    have HB1 := hide (HW.out.trans (hb1.mono HW.out.size))
    clear hb1
    go_wp2_with fail
    refine (HA.out _).mono ?_
    rintro e w2 ⟨rfl, hb2⟩
    have HB2 := hide (HB1.out.trans (hb2.mono HB1.out.size))
    clear hb2
    go_wp2_with fail
    go_ret
    exact ⟨rfl, HB2.out⟩
  | false =>
    rw [h1] at HV1
    cases h2 : heavyB S with
    | true =>
      rw [h2] at HV2
      go_enter Try.func9, Try.ntmps9
      go_wp2_with fail
      refine (HV1.out _ (HT.out _ HW.out)).mono ?_
      rintro e w1 ⟨rfl, hb1⟩
      have HB1 := hide (HW.out.trans (hb1.mono HW.out.size))
      have hc := KS.out.below hb1
      have e0 := hc.cell 0
      have e1 := hc.cell 1
      have e2 := hc.cell 2
      have e3 := hc.cell 3
      have el := hc.lt
      clear hb1 hc
      go_wp2_with fail
      refine (HV2.out _ (HS.out _ HB1.out)).mono ?_
      rintro e w2 ⟨rfl, hb2⟩
      have HB2 := hide (HB1.out.trans (hb2.mono HB1.out.size))
      clear hb2
      go_wp2_with fail
      refine (HA.out _).mono ?_
      rintro e w3 ⟨rfl, hb3⟩
      have HB3 := hide (HB2.out.trans (hb3.mono HB2.out.size))
      clear hb3
      go_wp2_with fail
      go_ret
      exact ⟨rfl, HB3.out⟩
    | false =>
      rw [h2] at HV2
      have HC1 := hide (cnt_of_heavy h1)
      have HC2 := hide (cnt_of_heavy h2)
      clear h1 h2
      by_cases hbig : 1000 < nl
      · have hbi : (1000 : Int) < (nl : Int) := by omega
        go_enter Try.func9, Try.ntmps9
        go_wp2_with fail
        refine (HV1.out _ (HT.out _ HW.out)).mono ?_
        rintro e w1 ⟨rfl, hb1⟩
        have HB1 := hide (HW.out.trans (hb1.mono HW.out.size))
        have hc := KS.out.below hb1
        have e0 := hc.cell 0
        have e1 := hc.cell 1
        have e2 := hc.cell 2
        have e3 := hc.cell 3
        have el := hc.lt
        clear hb1 hc
        go_wp2_with fail
        refine (HV2.out _ (HS.out _ HB1.out)).mono ?_
        rintro e w2 ⟨rfl, hb2⟩
        have HB2 := hide (HB1.out.trans (hb2.mono HB1.out.size))
        clear hb2
        go_wp2_with fail
        refine (HA.out _).mono ?_
        rintro e w3 ⟨rfl, hb3⟩
        have HB3 := hide (HB2.out.trans (hb3.mono HB2.out.size))
        clear hb3
        go_wp2_with fail
        go_ret
        exact ⟨rfl, HB3.out⟩
      · have hbi : ¬ (1000 : Int) < (nl : Int) := by omega
        have HCP := hide (fun v W h => copyT_any T (by have := HC1.out; omega) v W h)
        have HAT := hide (fun v u W h1 h2 => (at_any T l v u W (by have := HC1.out; omega) h1 h2).mono (fun e w' h => uni_at h))
        have HRAT := hide (fun v u W h1 h2 => (rat_any l T v u W (by have := HC1.out; omega) h1 h2).mono (fun e w' h => uni_at h))
        have HPT := hide (fun v u s W h1 h2 h3 => (put_any T S l v u s W (by have := HC1.out; omega) (by have := HC2.out; omega) h1 h2 h3).mono (fun e w' h => uni_put h))
        have HRPT := hide (fun v u s W h1 h2 h3 => (rput_any l T S v u s W (by have := HC1.out; omega) (by have := HC2.out; omega) h1 h2 h3).mono (fun e w' h => uni_put h))
        generalize oT (atP T l) = A at *
        generalize oC (atP T l) = ca at *
        generalize oT (putP T l S) = C at *
        generalize oC (putP T l S) = cc at *
        have HAA := hide ((sameB_eq A A).2 rfl)
        have HCC := hide ((sameB_eq C C).2 rfl)
        have HTT := hide ((sameB_eq T T).2 rfl)
        go_enter Try.func9, Try.ntmps9
        go_wp2_with fail
        refine (HV1.out _ (HT.out _ HW.out)).mono ?_
        rintro e w1 ⟨rfl, hb⟩
        have HB := hide (below_wide HW.out hb)
        replace KT := hide (KT.out.below hb)
        replace KS := hide (KS.out.below hb)
        clear hb
        have e0 := KS.out.cell 0
        have e1 := KS.out.cell 1
        have e2 := KS.out.cell 2
        have e3 := KS.out.cell 3
        have el := KS.out.lt
        go_wp2_with fail
        refine (HV2.out _ (HS.out _ HB.out)).mono ?_
        rintro e w2 ⟨rfl, hb⟩
        replace HB := hide (below_wide HB.out hb)
        replace KT := hide (KT.out.below hb)
        replace KS := hide (KS.out.below hb)
        have HX0 := hide KS.out.lt
        clear hb e0 e1 e2 e3 el HV1 HV2 HW
        have e0 := KT.out.cell 0
        have e1 := KT.out.cell 1
        have e2 := KT.out.cell 2
        have e3 := KT.out.cell 3
        have el := KT.out.lt
        go_wp2_with fail
        refine (HCP.out _ _ (HT.out _ HB.out)).mono ?_
        rintro e w3 ⟨⟨v', rfl, ht⟩, hb⟩
        obtain ⟨o1, m1, o2, m2, rfl, _, _, _, _⟩ := ht.rt.open
        have hn := below_wide hb (grow1 w3 (.cells #[.int .i64 T.kind, .string T.cons, .slice o1 T.text.length m1, .slice o2 T.kids.length m2] 25))
        have HX1 := hide hb.size
        replace HB := hide (below_wide HB.out hn)
        replace KT := hide (KT.out.below hn)
        replace KS := hide (KS.out.below hn)
        have KO := hide (Blk.new w3 #[.int .i64 T.kind, .string T.cons, .slice o1 T.text.length m1, .slice o2 T.kids.length m2] 25)
        have TO := hide (Tree.on ht.low (grow1 w3 (.cells #[.int .i64 T.kind, .string T.cons, .slice o1 T.text.length m1, .slice o2 T.kids.length m2] 25)))
        clear ht hb hn e0 e1 e2 e3 el HCP
        have e0 := KO.out.cell 0
        have e1 := KO.out.cell 1
        have e2 := KO.out.cell 2
        have e3 := KO.out.cell 3
        have el := KO.out.lt
        go_wp2_with fail
        refine (HAT.out _ _ _ (TO.out.rt.to) (HL.out _ HB.out).rv).mono ?_
        rintro e w4 ⟨p1, q1, p2, q2, rfl, ht, hb⟩
        have hn := below_wide hb.out (grow1 w4 (.cells #[.int .i64 A.kind, .string A.cons, .slice p1 A.text.length q1, .slice p2 A.kids.length q2] 25))
        have HX2 := hide hb.out.size
        replace HB := hide (below_wide HB.out hn)
        replace KT := hide (KT.out.below hn)
        replace KS := hide (KS.out.below hn)
        replace KO := hide (KO.out.below hn)
        replace TO := hide (TO.out.on hn)
        have KA := hide (Blk.new w4 #[.int .i64 A.kind, .string A.cons, .slice p1 A.text.length q1, .slice p2 A.kids.length q2] 25)
        have TA := hide (Tree.on ht.out (grow1 w4 (.cells #[.int .i64 A.kind, .string A.cons, .slice p1 A.text.length q1, .slice p2 A.kids.length q2] 25)))
        clear ht hb hn e0 e1 e2 e3 el HAT
        have e0 := KT.out.cell 0
        have e1 := KT.out.cell 1
        have e2 := KT.out.cell 2
        have e3 := KT.out.cell 3
        have el := KT.out.lt
        go_wp2_with fail
        refine (HRAT.out _ _ _ (HT.out _ HB.out) (HL.out _ HB.out)).mono ?_
        rintro e w5 ⟨r1, t1, r2, t2, rfl, ht, hb⟩
        have hn := below_wide hb.out (grow1 w5 (.cells #[.int .i64 A.kind, .string A.cons, .slice r1 A.text.length t1, .slice r2 A.kids.length t2] 25))
        have HX3 := hide hb.out.size
        replace HB := hide (below_wide HB.out hn)
        replace KT := hide (KT.out.below hn)
        replace KS := hide (KS.out.below hn)
        replace KO := hide (KO.out.below hn)
        replace TO := hide (TO.out.on hn)
        replace KA := hide (KA.out.below hn)
        replace TA := hide (TA.out.on hn)
        have KB := hide (Blk.new w5 #[.int .i64 A.kind, .string A.cons, .slice r1 A.text.length t1, .slice r2 A.kids.length t2] 25)
        have TB := hide (Tree.on ht.out (grow1 w5 (.cells #[.int .i64 A.kind, .string A.cons, .slice r1 A.text.length t1, .slice r2 A.kids.length t2] 25)))
        clear ht hb hn e0 e1 e2 e3 el HRAT
        have e0 := KO.out.cell 0
        have e1 := KO.out.cell 1
        have e2 := KO.out.cell 2
        have e3 := KO.out.cell 3
        have el := KO.out.lt
        have f0 := KS.out.cell 0
        have f1 := KS.out.cell 1
        have f2 := KS.out.cell 2
        have f3 := KS.out.cell 3
        have fl := KS.out.lt
        go_wp2_with fail
        refine (HPT.out _ _ _ _ (TO.out.rt.to) (HL.out _ HB.out).rv (HS.out _ HB.out)).mono ?_
        rintro e w6 ⟨x1, y1, x2, y2, rfl, ht, hb⟩
        have hn := below_wide hb.out (grow1 w6 (.cells #[.int .i64 C.kind, .string C.cons, .slice x1 C.text.length y1, .slice x2 C.kids.length y2] 25))
        have HX4 := hide hb.out.size
        replace HB := hide (below_wide HB.out hn)
        replace KT := hide (KT.out.below hn)
        replace KS := hide (KS.out.below hn)
        replace KO := hide (KO.out.below hn)
        replace TO := hide (TO.out.on hn)
        replace KA := hide (KA.out.below hn)
        replace TA := hide (TA.out.on hn)
        replace KB := hide (KB.out.below hn)
        replace TB := hide (TB.out.on hn)
        have KC := hide (Blk.new w6 #[.int .i64 C.kind, .string C.cons, .slice x1 C.text.length y1, .slice x2 C.kids.length y2] 25)
        have TC := hide (RTo.on ht.out (grow1 w6 (.cells #[.int .i64 C.kind, .string C.cons, .slice x1 C.text.length y1, .slice x2 C.kids.length y2] 25)))
        clear ht hb hn e0 e1 e2 e3 el f0 f1 f2 f3 fl HPT
        have e0 := KT.out.cell 0
        have e1 := KT.out.cell 1
        have e2 := KT.out.cell 2
        have e3 := KT.out.cell 3
        have el := KT.out.lt
        have f0 := KS.out.cell 0
        have f1 := KS.out.cell 1
        have f2 := KS.out.cell 2
        have f3 := KS.out.cell 3
        have fl := KS.out.lt
        go_wp2_with fail
        refine (HRPT.out _ _ _ _ (HT.out _ HB.out) (HL.out _ HB.out) (HS.out _ HB.out)).mono ?_
        rintro e w7 ⟨z1, j1, z2, j2, rfl, ht, hb⟩
        have hn := below_wide hb.out (grow1 w7 (.cells #[.int .i64 C.kind, .string C.cons, .slice z1 C.text.length j1, .slice z2 C.kids.length j2] 25))
        have HX5 := hide hb.out.size
        replace HB := hide (below_wide HB.out hn)
        replace KT := hide (KT.out.below hn)
        replace KO := hide (KO.out.below hn)
        replace TO := hide (TO.out.on hn)
        replace KA := hide (KA.out.below hn)
        replace TA := hide (TA.out.on hn)
        replace KB := hide (KB.out.below hn)
        replace TB := hide (TB.out.on hn)
        replace KC := hide (KC.out.below hn)
        replace TC := hide (TC.out.on hn)
        have KD := hide (Blk.new w7 #[.int .i64 C.kind, .string C.cons, .slice z1 C.text.length j1, .slice z2 C.kids.length j2] 25)
        have TD := hide (RTo.on ht.out (grow1 w7 (.cells #[.int .i64 C.kind, .string C.cons, .slice z1 C.text.length j1, .slice z2 C.kids.length j2] 25)))
        clear ht hb hn e0 e1 e2 e3 el f0 f1 f2 f3 fl HRPT KS HS HL
        have e0 := KA.out.cell 0
        have e1 := KA.out.cell 1
        have e2 := KA.out.cell 2
        have e3 := KA.out.cell 3
        have el := KA.out.lt
        have f0 := KB.out.cell 0
        have f1 := KB.out.cell 1
        have f2 := KB.out.cell 2
        have f3 := KB.out.cell 3
        have fl := KB.out.lt
        have HR := hide (rsame_any A A _ _ _ TA.out.rt.to TB.out.rt.to)
        rw [HAA.out] at HR
        go_wp2_with fail
        refine HR.out.mono ?_
        rintro e w8 ⟨rfl, hb⟩
        replace HB := hide (below_wide HB.out hb)
        replace KT := hide (KT.out.below hb)
        replace KO := hide (KO.out.below hb)
        replace TO := hide (TO.out.on hb)
        replace KA := hide (KA.out.below hb)
        replace TA := hide (TA.out.on hb)
        replace KC := hide (KC.out.below hb)
        replace TC := hide (TC.out.on hb)
        replace KD := hide (KD.out.below hb)
        replace TD := hide (TD.out.on hb)
        have HX6 := hide hb.size
        clear hb e0 e1 e2 e3 el f0 f1 f2 f3 fl HR KB TB
        have e0 := KC.out.cell 0
        have e1 := KC.out.cell 1
        have e2 := KC.out.cell 2
        have e3 := KC.out.cell 3
        have el := KC.out.lt
        have f0 := KD.out.cell 0
        have f1 := KD.out.cell 1
        have f2 := KD.out.cell 2
        have f3 := KD.out.cell 3
        have fl := KD.out.lt
        have HR := hide (rsame_any C C _ _ _ TC.out.to TD.out.to)
        rw [HCC.out] at HR
        go_wp2_with fail
        refine HR.out.mono ?_
        rintro e w9 ⟨rfl, hb⟩
        replace HB := hide (below_wide HB.out hb)
        replace KT := hide (KT.out.below hb)
        replace KO := hide (KO.out.below hb)
        replace TO := hide (TO.out.on hb)
        replace KA := hide (KA.out.below hb)
        replace TA := hide (TA.out.on hb)
        replace KC := hide (KC.out.below hb)
        replace TC := hide (TC.out.on hb)
        replace KD := hide (KD.out.below hb)
        replace TD := hide (TD.out.on hb)
        have HX7 := hide hb.size
        clear hb e0 e1 e2 e3 el f0 f1 f2 f3 fl HR
        have e0 := KA.out.cell 0
        have e1 := KA.out.cell 1
        have e2 := KA.out.cell 2
        have e3 := KA.out.cell 3
        have el := KA.out.lt
        have HR := hide (spoil_any A _ _ _ TA.out)
        go_wp2_with fail
        refine HR.out.mono ?_
        rintro e w10 ⟨rfl, hs⟩
        have x0 := HX0.out
        have x1 := HX1.out
        have x2 := HX2.out
        have x3 := HX3.out
        have x4 := HX4.out
        have x5 := HX5.out
        have x6 := HX6.out
        have x7 := HX7.out
        simp only [World.size_alloc] at x2 x3 x4 x5 x6
        have hsp := hs
        simp only [World.size_alloc] at hsp
        replace HB := hide (HB.out.trans (hsp.below HB.out.size (fun k hk => by omega)))
        replace KT := hide (KT.out.keep hsp.keep (by show ¬ (_ ∧ _); omega))
        replace KO := hide (KO.out.keep hsp.keep (by show ¬ (_ ∧ _); omega))
        replace TO := hide (Tree.keep (hsp.keep.mono (fun k hk => by show ¬ (_ ∧ _); omega)) TO.out)
        replace KC := hide (KC.out.keep hsp.keep (by show ¬ (_ ∧ _); omega))
        replace KD := hide (KD.out.keep hsp.keep (by show ¬ (_ ∧ _); omega))
        replace TC := hide (RTo.keep (hsp.keep.mono (fun k hk => by simp only [World.size_alloc] at hk; show ¬ (_ ∧ _); omega)) TC.out)
        replace TD := hide (RTo.keep (hsp.keep.mono (fun k hk => by simp only [World.size_alloc] at hk; show ¬ (_ ∧ _); omega)) TD.out)
        clear hs hsp x0 x1 x2 x3 x4 x5 x6 x7 e0 e1 e2 e3 el KA TA HR
        have e0 := KO.out.cell 0
        have e1 := KO.out.cell 1
        have e2 := KO.out.cell 2
        have e3 := KO.out.cell 3
        have el := KO.out.lt
        have f0 := KT.out.cell 0
        have f1 := KT.out.cell 1
        have f2 := KT.out.cell 2
        have f3 := KT.out.cell 3
        have fl := KT.out.lt
        have HR := hide (rsame_any T T _ _ _ TO.out.rt.to (HT.out _ HB.out))
        rw [HTT.out] at HR
        go_wp2_with fail
        refine HR.out.mono ?_
        rintro e w11 ⟨rfl, hb⟩
        replace HB := hide (below_wide HB.out hb)
        replace KO := hide (KO.out.below hb)
        replace TO := hide (TO.out.on hb)
        replace KC := hide (KC.out.below hb)
        replace TC := hide (TC.out.on hb)
        replace KD := hide (KD.out.below hb)
        replace TD := hide (TD.out.on hb)
        clear hb e0 e1 e2 e3 el f0 f1 f2 f3 fl HR KT
        have e0 := KO.out.cell 0
        have e1 := KO.out.cell 1
        have e2 := KO.out.cell 2
        have e3 := KO.out.cell 3
        have el := KO.out.lt
        have HR := hide (spoil_any T _ _ _ TO.out)
        go_wp2_with fail
        refine HR.out.mono ?_
        rintro e w12 ⟨rfl, hs⟩
        have x0 := HX0.out
        have x1 := HX1.out
        have x2 := HX2.out
        have x3 := HX3.out
        have x4 := HX4.out
        have x5 := HX5.out
        simp only [World.size_alloc] at x2 x3 x4 x5
        replace HB := hide (HB.out.trans (hs.below HB.out.size (fun k hk => by omega)))
        replace KC := hide (KC.out.keep hs.keep (by show ¬ (_ ∧ _); omega))
        replace KD := hide (KD.out.keep hs.keep (by show ¬ (_ ∧ _); omega))
        replace TC := hide (RTo.keep (hs.keep.mono (fun k hk => by simp only [World.size_alloc] at hk; show ¬ (_ ∧ _); omega)) TC.out)
        replace TD := hide (RTo.keep (hs.keep.mono (fun k hk => by simp only [World.size_alloc] at hk; show ¬ (_ ∧ _); omega)) TD.out)
        clear hs x0 x1 x2 x3 x4 x5 e0 e1 e2 e3 el KO TO HR HX0 HX1 HX2 HX3 HX4 HX5 HX6 HX7
        go_wp2_with fail
        refine (HA.out _).mono ?_
        rintro e w13 ⟨rfl, hb⟩
        replace HB := hide (below_wide HB.out hb)
        replace KC := hide (KC.out.below hb)
        replace TC := hide (TC.out.on hb)
        replace KD := hide (KD.out.below hb)
        replace TD := hide (TD.out.on hb)
        clear hb
        have e0 := KC.out.cell 0
        have e1 := KC.out.cell 1
        have e2 := KC.out.cell 2
        have e3 := KC.out.cell 3
        have el := KC.out.lt
        have f0 := KD.out.cell 0
        have f1 := KD.out.cell 1
        have f2 := KD.out.cell 2
        have f3 := KD.out.cell 3
        have fl := KD.out.lt
        have HR := hide (rsame_any C C _ _ _ TC.out.to TD.out.to)
        rw [HCC.out] at HR
        go_wp2_with fail
        refine HR.out.mono ?_
        rintro e w14 ⟨rfl, hb⟩
        replace HB := hide (below_wide HB.out hb)
        clear hb e0 e1 e2 e3 el f0 f1 f2 f3 fl HR
        go_wp2_with fail
        go_ret
        exact ⟨rfl, HB.out⟩
end Go.Proofs.Ytfndldfnlncabaa
