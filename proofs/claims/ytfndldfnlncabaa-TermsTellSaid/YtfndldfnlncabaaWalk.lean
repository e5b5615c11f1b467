/- The walk of the program's walk: it hands on each part of a term, copied, ahead of its kids. -/
import Derived.Test.YtfndldfnlncabaaRange
import Derived.Test.YtfndldfnlncabaaRWalk
set_option linter.unusedVariables false
set_option linter.unusedSimpArgs false
set_option linter.unnecessarySimpa false
set_option linter.deprecated false
namespace Go.Proofs.Ytfndldfnlncabaa
open Go.RowKit Go.Shelf
attribute [local go_sem] Oper.semAt_some

theorem RBo.kc {ok : Nat → Prop} {Wr : Nat → TypeId → Prop} {w w' : World} {a : Option Addr} {bs : List UInt8} (hk : KC Wr w w') (ho : ∀ k, ok k → ∀ t, ¬ Wr k t) (h : RBo ok w a bs) : RBo ok w' a bs :=
  ⟨h.1, fun hn => by
    obtain ⟨b, o, e, hb, hl, hr⟩ := h.2 hn
    exact ⟨b, o, e, hb, Nat.lt_of_lt_of_le hl hk.size, fun i hi => hk.cell (ho b hb) (hr i hi)⟩⟩
mutual
theorem RTo.kc {ok : Nat → Prop} {Wr : Nat → TypeId → Prop} {w w' : World} (hk : KC Wr w w') (ho : ∀ k, ok k → ∀ t, ¬ Wr k t) : ∀ {T : Tm} {v : Value}, RTo ok w T v → RTo ok w' T v
  | .mk k c t ks, v, h => by
    rw [RTo] at h ⊢
    obtain ⟨a1, c1, a2, c2, e, hr, hc, hb, hl, hks⟩ := h
    exact ⟨a1, c1, a2, c2, e, hr, hc, hb.kc hk ho, hl, fun hn => by
      obtain ⟨b, o, e2, hob, hb2, hr2⟩ := hks hn
      exact ⟨b, o, e2, hob, Nat.lt_of_lt_of_le hb2 hk.size, RTos.kc hk ho (ho b hob) hr2⟩⟩
theorem RTos.kc {ok : Nat → Prop} {Wr : Nat → TypeId → Prop} {w w' : World} (hk : KC Wr w w') (ho : ∀ k, ok k → ∀ t, ¬ Wr k t) {b : Nat} (hb : ∀ t, ¬ Wr b t) : ∀ {ks : List Tm} {o : Nat}, RTos ok w b o ks → RTos ok w' b o ks
  | [], _, _ => by rw [RTos]; trivial
  | x :: xs, o, h => by
    rw [RTos] at h ⊢
    obtain ⟨⟨v0, v1, v2, v3, h0, h1, h2, h3, hx⟩, hr⟩ := h
    exact ⟨⟨v0, v1, v2, v3, hk.cell hb h0, hk.cell hb h1, hk.cell hb h2, hk.cell hb h3, RTo.kc hk ho hx⟩, RTos.kc hk ho hb hr⟩
end
theorem RKo.getb {ok : Nat → Prop} {w : World} {a : Option Addr} {ks : List Tm} (h : RKo ok w a ks) (i : Nat) (hi : i < ks.length) : ∃ b o a1 c1 a2 c2, a = some ⟨b, o, none⟩ ∧ ok b ∧ b < w.heap.size ∧
    w.cell? ⟨b, o + i * 4, none⟩ = some (.int .i64 ks[i].kind) ∧ w.cell? ⟨b, o + i * 4 + 1, none⟩ = some (.string ks[i].cons) ∧ w.cell? ⟨b, o + i * 4 + 2, none⟩ = some (.slice a1 ks[i].text.length c1) ∧ w.cell? ⟨b, o + i * 4 + 3, none⟩ = some (.slice a2 ks[i].kids.length c2) ∧
    RTo ok w ks[i] (.agg #[.int .i64 ks[i].kind, .string ks[i].cons, .slice a1 ks[i].text.length c1, .slice a2 ks[i].kids.length c2]) := by
  obtain ⟨b, o, e, ho, hb, hr⟩ := h.2 (by rintro rfl; simp at hi)
  obtain ⟨v0, v1, v2, v3, h0, h1, h2, h3, hx⟩ := hr.get i hi
  obtain ⟨a1, c1, a2, c2, e2, hk⟩ := hx.open
  simp only [Value.agg.injEq, Array.mk.injEq, List.cons.injEq, and_true] at e2
  obtain ⟨rfl, rfl, rfl, rfl⟩ := e2
  exact ⟨b, o, a1, c1, a2, c2, e, ho, hb, h0, h1, h2, h3, hx⟩

theorem hdw {k : Nat} : Fence.wide.depth.isSome = true → 1 ≤ k := fun h => by simp [Fence.wide] at h
/-- What is handed on. -/
def RdT (All : List Tm) (pr : List (Tm × Value)) (x : Tm × Value) (W0 W1 : World) : Prop := (pr ++ [x]).map Prod.fst <+: All ∧ Tree W1 x.1 (fun k => W0.heap.size ≤ k) x.2

/-- What walk answers. -/
def WkP (Wr : Nat → TypeId → Prop) (J Jx : List (Tm × Value) → World → Prop) (pr : List (Tm × Value)) (T : Tm) (W : World) (e : Ending) (W' : World) : Prop :=
  (e = .returned (.bool true) ∧ Hid (∃ ys, ys.map Prod.fst = pre T ∧ J (pr ++ ys) W' ∧ KC Wr W W')) ∨ (e = .returned (.bool false) ∧ Hid (∃ q, q.map Prod.fst <+: pre T ∧ Jx (pr ++ q) W'))

/-- What stands at the head of a round. -/
def WkRel (Wr : Nat → TypeId → Prop) (J : List (Tm × Value) → World → Prop) (pr : List (Tm × Value)) (T : Tm) (W : World) (k : Nat) (wr : World) : Prop :=
  k ≤ T.kids.length ∧ ∃ ys, ys.map Prod.fst = T :: preL (T.kids.take k) ∧ J (pr ++ ys) wr ∧ KC Wr W wr

section
variable (l : Nat) (Wr : Nat → TypeId → Prop) (All : List Tm) (B N : Nat) (J Jx : List (Tm × Value) → World → Prop)
def WkOk (T : Tm) : Prop := cnt T ≤ 1000000 → ∀ (n : Nat) (ok : Nat → Prop) (v : Value) (pr : List (Tm × Value)) (W : World), (∀ k, ok k → (∀ t, ¬ Wr k t) ∧ k < B) → RTo ok W T v → B ≤ W.heap.size → J pr W → pr.length + cnt T ≤ N → pr.map Prod.fst ++ pre T <+: All →
  CallsIn Fence.wide n Try.prog 46 #[v, .func (.yield l) #[] #[]] W (WkP Wr J Jx pr T W)

set_option maxHeartbeats 2000000 in
set_option maxRecDepth 100000 in
theorem walk_in (hWr : ∀ k, ¬ Wr k 25 ∨ k < B) (hJ : ∀ s A C, J s A → Turn B A C → J s C) (hJx : ∀ s A C, Jx s A → Turn B A C → Jx s C)
    (hY : ∀ m pr x W0 W1, J pr W0 → Below W0.heap.size W0 W1 → RdT All pr x W0 W1 → pr.length < N → YieldAt Fence.wide m Try.prog l #[x.2] W1 fun e W' =>
      (e = .returned (.bool true) ∧ J (pr ++ [x]) W' ∧ KC Wr W1 W') ∨ (e = .returned (.bool false) ∧ Jx (pr ++ [x]) W')) : ∀ T, WkOk l Wr All B N J Jx T := by
  refine Tm.induct fun kd cs tx ks ih => ?_
  intro hcnt n ok v pr W hok hT hB hj hN hall
  have HALL := hide hall
  rw [pre] at hall
  rw [cnt] at hcnt hN
  have hkc : ks.length ≤ 1000000 := by have := len_cntL ks; omega
  have HCN := hide hcnt
  have HN := hide hN
  obtain ⟨a1, c1, a2, c2, rfl, hkd, hcs, ht1, hks⟩ := hT.open
  simp only [Tm.kind, Tm.cons, Tm.text, Tm.kids] at hks ht1 hkd hcs hT ⊢
  have HK := hide hks
  have HI := hide ih
  have HY := hide hY
  have HOK := hide hok
  have HJ := hide hj
  have HTN := hide hJ
  have HB := hide hB
  have hb1 := (Below.refl W.heap.size W).alloc (Nat.le_refl _) (.cells #[.int .i64 kd, .string cs, .slice a1 tx.length c1, .slice a2 ks.length c2] 25)
  have HC := hide (callsIn_wide (n := n - 1) |>.2 (copied_any (.mk kd cs tx ks) (by rw [cnt]; omega) _ _ (RT.below hb1 hT.to)))
  have HBX := hide (Blk.new W #[.int .i64 kd, .string cs, .slice a1 tx.length c1, .slice a2 ks.length c2] 25)
  have HB1 := hide hb1
  clear hks ht1 ih hT hcnt hN hY hok hj hJ hJx hB hb1 hall
  refine callsIn_of_wp Try.func46 rfl trivial ?_ rfl
  simp only [Try.ntmps46, List.size_toArray, List.length_cons, List.length_nil, Nat.reduceAdd, Nat.reduceSub, Array.replicate_succ, Array.replicate_zero, List.push_toArray, List.append_toArray, List.nil_append, List.cons_append]
  gi_wp2_with fail
  refine ⟨trivial, hdw, ?_⟩
  gi_at_call 47
  refine HC.out.mono ?_
  rintro e w1 ⟨⟨v', rfl, ht⟩, hb⟩
  have hja := HTN.out _ _ _ HJ.out (Turn.alloc B W (.cells #[.int .i64 kd, .string cs, .slice a1 tx.length c1, .slice a2 ks.length c2] 25) HB.out)
  obtain ⟨fn, tmps, assign, body, hy, hR⟩ := HY.out (n - 1) pr (.mk kd cs tx ks, v') _ w1 hja hb ⟨List.IsPrefix.trans ⟨preL ks, by rw [pre]; simp⟩ HALL.out, ht⟩ (by have := HN.out; omega)
  dsimp only at hy
  have HRR := hide hR
  have HKC := hide (KC.trans (Turn.kc (Wr := Wr) (Turn.of_below (B := 0) HB1.out (Nat.zero_le _))) (Turn.kc (Turn.of_below (B := 0) hb (Nat.zero_le _))))
  have hbx := HBX.out.below hb
  have HB1' := hide (HB1.out.trans (hb.mono HB1.out.size))
  clear hja ht hb hR
  gi_wp2_with fail
  refine ⟨hdw, HRR.out.mono ?_⟩
  rintro e w2 (⟨rfl, hj2, hk2⟩ | ⟨rfl, hx2⟩)
  · have hnw : ¬ Wr W.heap.size 25 := (hWr _).elim id (fun h => by have := HB.out; omega)
    have hbx2 := hk2.blk hnw hbx
    have q3 := hbx2.cell 3
    have ql := hbx2.lt
    have HRel := hide (show WkRel Wr J pr (.mk kd cs tx ks) W 0 w2 from ⟨Nat.zero_le _, [(.mk kd cs tx ks, v')], by simp [preL], hj2, HKC.out.trans hk2⟩)
    clear hj2 hk2 hbx2 hbx
    gi_wp2_with fail
    gi_loopw [15] (fun i wr => ∃ k : Nat, i = .int .i64 (k : Int) ∧ Hid (WkRel Wr J pr (.mk kd cs tx ks) W k wr)) (fun i wr => ks.length - (intOf i).toNat)
    case atStart => exact ⟨0, rfl, HRel⟩
    case round =>
      obtain ⟨k, rfl, hr⟩ := hrel
      have hle := hr.out.1
      simp only [Tm.kids] at hle
      by_cases hlt : k < ks.length
      · have hlti : (k : Int) < (ks.length : Int) := by omega
        obtain ⟨bk, ob, x1, k1, x3, k3, rfl, hob, hbl, e0, e1, e2, e3, hx⟩ := HK.out.getb k hlt
        obtain ⟨_, ys, hys, hjr, hkr⟩ := hr.out
        have hnb := (HOK.out bk hob).1
        have e0' := hkr.cell hnb e0
        have e1' := hkr.cell hnb e1
        have e2' := hkr.cell hnb e2
        have e3' := hkr.cell hnb e3
        have hbl' := Nat.lt_of_lt_of_le hbl hkr.size
        have hbr : B ≤ wr.heap.size := Nat.le_trans HB.out hkr.size
        have hba := (Below.refl wr.heap.size wr).alloc (Nat.le_refl _) (.cells #[.int .i64 ks[k].kind, .string ks[k].cons, .slice x1 ks[k].text.length k1, .slice x3 ks[k].kids.length k3] 25)
        have hlen : ys.length = 1 + cntL (ks.take k) := by
          have := congrArg List.length hys
          rw [List.length_map, List.length_cons, preL_len] at this
          simp only [Tm.kids] at this; omega
        have hcn := cntL_mem (List.getElem_mem hlt)
        have hct : cntL (ks.take k) + cnt ks[k] ≤ cntL ks := by
          have h1 := cntL_take ks (k + 1)
          rw [← preL_len, preL_snoc _ _ hlt, List.length_append, preL_len, pre_len] at h1
          exact h1
        have HX := hide (HI.out ks[k] (List.getElem_mem hlt) (by have := HCN.out; omega) (n - 1) ok _ (pr ++ ys) _ HOK.out (RTo.kc (hkr.trans (Turn.kc (Turn.of_below (B := 0) hba (Nat.zero_le _)))) (fun j hj => (HOK.out j hj).1) hx) (Nat.le_trans hbr hba.size) (HTN.out _ _ _ hjr (Turn.of_below hba hbr)) (by rw [List.length_append]; have := HN.out; omega) (by
          refine List.IsPrefix.trans ⟨preL (ks.drop (k + 1)), ?_⟩ HALL.out
          rw [List.map_append, hys, pre]
          simp only [Tm.kids]
          rw [List.append_assoc, List.append_assoc, List.cons_append, ← List.append_assoc (preL _), ← preL_snoc _ _ hlt, ← preL_append, List.take_append_drop]))
        have HYS := hide hys
        have HKR := hide (hkr.trans (Turn.kc (Turn.of_below (B := 0) hba (Nat.zero_le _))))
        clear hr hx e0 e1 e2 e3 hys hjr hkr hlen hcn hct hba
        gi_wp2_with fail
        refine ⟨trivial, hdw, ?_⟩
        gi_at_call 46
        refine HX.out.mono ?_
        rintro e w3 (⟨rfl, h3⟩ | ⟨rfl, h3⟩)
        · gi_wp2_with fail
          go_roundw
          case rel =>
            obtain ⟨zs, hzs, hj3, hk3⟩ := h3.out
            refine ⟨k + 1, by go_num, ⟨hlt, ys ++ zs, ?_, by rw [← List.append_assoc]; exact hj3, HKR.out.trans hk3⟩⟩
            rw [List.map_append, HYS.out, hzs]
            simp only [Tm.kids]
            rw [preL_snoc _ _ hlt, List.cons_append]
          case measure => simp [intOf]; omega
        · gi_wp2_with fail
          go_ret
          obtain ⟨q, hq, hx3⟩ := h3.out
          refine .inr ⟨rfl, ys ++ q, ?_, by rw [← List.append_assoc]; exact hx3⟩
          rw [List.map_append, HYS.out, pre]
          simp only [Tm.kids]
          obtain ⟨r, hr⟩ := hq
          refine ⟨r ++ preL (ks.drop (k + 1)), ?_⟩
          rw [List.cons_append, List.cons_append]
          congr 1
          rw [List.append_assoc, ← List.append_assoc _ r, hr, ← List.append_assoc, ← preL_snoc _ _ hlt, ← preL_append, List.take_append_drop]
      · obtain rfl : k = ks.length := by omega
        gi_wp2_with fail
        go_ret
        obtain ⟨_, ys, hys, hjr, hkr⟩ := hr.out
        refine .inl ⟨rfl, ys, ?_, hjr, hkr⟩
        rw [hys, pre]
        simp only [Tm.kids, List.take_length]
  · gi_wp2_with fail
    go_ret
    exact .inr ⟨rfl, [(.mk kd cs tx ks, v')], by rw [pre]; exact ⟨_, rfl⟩, hx2⟩
end

set_option maxHeartbeats 1000000 in
/-- The function that Walk hands back goes through the term. -/
theorem walk_iter (T : Tm) (hc : cnt T ≤ 1000000) (Bt : Nat) (w : World) (Wr : Nat → TypeId → Prop) (ok : Nat → Prop) {a1 a2 : Option Addr} {c1 c2 : Nat} (hok : ∀ k, ok k → (∀ t, ¬ Wr k t) ∧ k < w.heap.size) (hBt : Blk w Bt #[.int .i64 T.kind, .string T.cons, .slice a1 T.text.length c1, .slice a2 T.kids.length c2] 25)
    (hT : RTo ok w T (.agg #[.int .i64 T.kind, .string T.cons, .slice a1 T.text.length c1, .slice a2 T.kids.length c2])) (hWr : ∀ k, ¬ Wr k 25 ∨ k < w.heap.size) :
    Iter Try.prog 45 #[.pointer (some ⟨Bt, 0, none⟩)] (fun x : Tm × Value => #[x.2]) (RdT (pre T)) Wr (fun ys => ys.map Prod.fst = pre T) (fun q => q.map Prod.fst <+: pre T) (cnt T) w := by
  intro l J Jx W hb hJ hJx hY h0 n
  have hbx := hBt.below hb
  have HX := hide (walk_in l Wr (pre T) W.heap.size (cnt T) J Jx (fun k => (hWr k).imp id (fun h => Nat.lt_of_lt_of_le h hb.size)) hJ hJx hY T hc (n - 1) ok _ [] W (fun k hk => ⟨(hok k hk).1, Nat.lt_of_lt_of_le (hok k hk).2 hb.size⟩) (RTo.keep ⟨hb.size, fun k hk _ => hb.block k (hok k hk).2⟩ hT) (Nat.le_refl _) h0 (by simp) (by simp))
  have e0 := hbx.cell 0
  have e1 := hbx.cell 1
  have e2 := hbx.cell 2
  have e3 := hbx.cell 3
  have el := hbx.lt
  clear hbx hT hBt hY hJ hJx hok
  refine callsIn_of_wp Try.func45 rfl trivial ?_ rfl
  simp only [Try.ntmps45, List.size_toArray, List.length_cons, List.length_nil, Nat.reduceAdd, Nat.reduceSub, Array.replicate_succ, Array.replicate_zero, List.push_toArray, List.append_toArray, List.nil_append, List.cons_append]
  gi_wp2_with fail
  refine ⟨trivial, hdw, ?_⟩
  gi_at_call 46
  refine HX.out.mono ?_
  rintro e w3 (⟨rfl, h3⟩ | ⟨rfl, h3⟩)
  · gi_wp2_with fail
    go_end0
    obtain ⟨ys, hys, hj, _⟩ := h3.out
    exact ⟨⟨_, rfl⟩, .inl ⟨ys, hys, by simpa using hj⟩⟩
  · gi_wp2_with fail
    go_end0
    obtain ⟨q, hq, hx⟩ := h3.out
    exact ⟨⟨_, rfl⟩, .inr ⟨q, hq, by simpa using hx⟩⟩

set_option maxHeartbeats 1000000 in
theorem walk_any (v0 v1 v2 v3 : Value) (w : World) : Calls Try.prog 23 #[.agg #[v0, v1, v2, v3]] w fun e w' => e = .returned (.func (.func 45) #[] #[.pointer (some ⟨w.heap.size, 0, none⟩)]) ∧ w' = w.alloc (.cells #[v0, v1, v2, v3] 25) := by
  go_enter Try.func23, Try.ntmps23
  go_wp2_with fail
  go_ret
  exact ⟨rfl, rfl⟩
end Go.Proofs.Ytfndldfnlncabaa
