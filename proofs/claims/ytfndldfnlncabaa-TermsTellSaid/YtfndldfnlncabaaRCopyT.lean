/- The walk of the reference's Copy: the copy lies in blocks of its own, shared by nothing. -/
import Derived.Test.YtfndldfnlncabaaRCopy
import Derived.Test.YtfndldfnlncabaaOwnR
set_option linter.unusedVariables false
set_option linter.unusedSimpArgs false
set_option linter.unnecessarySimpa false
set_option linter.deprecated false
namespace Go.Proofs.Ytfndldfnlncabaa
open Go.RowKit

structure CopyRelT (w : World) (kd : Int) (cs : ByteArray) (tx : List UInt8) (ks : List Tm) (va : Array Value) (k : Nat) (w2 : World) : Prop where
  below : Below w.heap.size w w2
  b0 : Blk w2 w.heap.size va 25
  b1 : Blk w2 (w.heap.size + 1) #[.int .i64 0, .string emptyB, .slice none 0 0, .slice none 0 0] 25
  ex : ∃ at_ ct vk, Blk w2 (w.heap.size + 1 + 1) #[.int .i64 kd, .string cs, .slice at_ tx.length ct, vk] 25 ∧ TBo (fun k => w.heap.size + 3 ≤ k) w2 at_ tx ∧ (∀ k, some k = at_.map (·.block) → w.heap.size + 3 ≤ k ∧ k < w2.heap.size) ∧ OwnR (w.heap.size + 3) at_ (ks.take k) vk w2
  le : k ≤ ks.length
theorem own_blk {w : World} {B n : Nat} {a : Option Addr} {m c : Nat} {xs : List Value} (h : w.ownsRow B 5 1 (.slice a m c) n xs) : ∀ k, some k = a.map (·.block) → B ≤ k ∧ k < w.heap.size := by
  intro k hk
  rcases h.2 with ⟨e, _⟩ | ⟨g, cap, cur, e, hb, hh, _⟩
  · injection e with e1 _ _
    rw [e1] at hk
    cases hk
  · injection e with e1 _ _
    rw [e1] at hk
    simp only [Option.map_some, Option.some.injEq] at hk
    subst hk
    exact ⟨hb, (Array.getElem?_eq_some_iff.1 hh).1⟩
def CopyOkT (T : Tm) : Prop := cnt T ≤ 1000000 → ∀ (v : Value) (w : World), RT w T v → Calls Try.prog 21 #[v] w (CpP w T)

theorem copy_endT {w w2 : World} {T : Tm} {v : Value} {v0 v1 v2 v3 : Value} (hb : Below w.heap.size w w2) (hT : Tree w2 T (fun k => w.heap.size + 3 ≤ k) v) :
    Tree (lay4 w2 (w.heap.size + 1) v0 v1 v2 v3) T (fun k => w.heap.size ≤ k) v ∧ Below w.heap.size w (lay4 w2 (w.heap.size + 1) v0 v1 v2 v3) := by
  refine ⟨Tree.weak (fun k hk => by omega) (Tree.keep (Keep.setS (Keep.setS (Keep.setS (Keep.setS (Keep.refl _ _) ?_) ?_) ?_) ?_) hT), ?_⟩
  · omega
  · omega
  · omega
  · omega
  · exact hb.trans ((Below.set2 (by omega)).trans ((Below.set2 (by omega)).trans ((Below.set2 (by omega)).trans (Below.set2 (by omega)))))

set_option maxHeartbeats 2000000 in
set_option maxRecDepth 100000 in
theorem copyT_any : ∀ T, CopyOkT T := by
  refine Tm.induct fun kd cs tx ks ih => ?_
  intro hcnt v w hT
  rw [cnt] at hcnt
  have hkc : ks.length ≤ 1000000 := by have := len_cntL ks; omega
  have HCN := hide hcnt
  clear hcnt
  obtain ⟨a1, c1, a2, c2, rfl, hkd, hcs, ht1, hks⟩ := hT.open
  simp only [Tm.kind, Tm.cons, Tm.text, Tm.kids] at hks ht1 hkd hcs ⊢
  have HK := hide hks
  have HT := hide ht1
  have HI := hide ih
  have hk1 := hks.1
  have ht2 := ht1.1
  obtain ⟨i0, hi, hz0, hz1, hz2⟩ := info_parts info5
  obtain ⟨j0, hj, hy0, hy1, hy2⟩ := info_parts info25
  clear hks ht1 ih hT
  go_enter Try.func21, Try.ntmps21
  go_upto_region 2 with fail
  go_cut [15] (fun _ wc => Hid (CopyRelT w kd cs tx ks #[.int .i64 kd, .string cs, .slice a1 tx.length c1, .slice a2 ks.length c2] 0 wc))
  case first =>
    have hw3 : w.heap.size + 3 ≤ (((w.alloc (.cells #[.int .i64 kd, .string cs, .slice a1 tx.length c1, .slice a2 ks.length c2] 25)).alloc (.cells #[.int .i64 0, .string emptyB, .slice none 0 0, .slice none 0 0] 25)).alloc (.cells #[.int .i64 kd, .string cs, .slice none 0 0, .slice none 0 0] 25)).heap.size := by simp
    rcases a1 with _ | ad
    · have h0 : tx = [] := by
        by_cases h : tx = []
        · exact h
        · obtain ⟨b, o, e, _⟩ := HT.out.get h
          cases e
      subst h0
      simp only [List.length_nil]
      go_wp2_with fail
      go_meet
      case rel =>
        have h := copy_new w kd cs (.slice none 0 c1) (.slice a2 ks.length c2) _ ⟨rfl, rfl, rfl, Nat.le_refl _, fun _ _ _ => rfl⟩
        exact hide ⟨h.1, h.2.1, h.2.2.1, ⟨none, 0, .slice none 0 0, h.2.2.2, TBo.nil, (fun k hk => by cases hk), by rw [List.take_zero]; exact OwnR.nil _ _ _⟩, Nat.zero_le _⟩
    · have hcells : ∀ j u, (Lib.byteCells tx)[j]? = some u → (((w.alloc (.cells #[.int .i64 kd, .string cs, .slice (some ad) tx.length c1, .slice a2 ks.length c2] 25)).alloc (.cells #[.int .i64 0, .string emptyB, .slice none 0 0, .slice none 0 0] 25)).alloc (.cells #[.int .i64 kd, .string cs, .slice none 0 0, .slice none 0 0] 25)).cell? (ad.add j) = some u := by
        by_cases h : tx = []
        · subst h; intro j u hj; simp [Lib.byteCells] at hj
        · obtain ⟨b, o, e, hlt, hr⟩ := HT.out.get h
          injection e with e
          refine byteCells_at e (RBs.below hlt hr ((((Below.refl _ _).alloc (Nat.le_refl _) _).alloc (by simp) _).alloc (by simp; omega) _))
      have hc1 : (Lib.byteCells tx).length = tx.length * 1 := by rw [Lib.byteCells_length]; omega
      have hc2 : ∀ u ∈ Lib.byteCells tx, u.oneCell' = true := by
        intro u hu
        simp only [Lib.byteCells, List.mem_map] at hu
        obtain ⟨c, _, rfl⟩ := hu
        rfl
      have hc3 : 0 + tx.length ≤ maxLen := by unfold maxLen; omega
      have hc4 : (0 + tx.length) * 1 ≤ 140737488355328 := by omega
      go_wp2_with (at_builtin; refine wpList_append_own_at _ rfl _ _ 22 rfl (w.heap.size + 3) 5 i0 _ 1 1 Try.underlying22 hi hz0 hz1 hz2 rfl (by decide) _ 0 [] rfl (World.ownsRow_nil _ _ _ _) ad tx.length c1 (Lib.byteCells tx) rfl hc1 hcells hc2 hc3 hc4 hw3 ?_; intro v' w2 hown' hgrow hnil hat; rw [List.nil_append, Nat.zero_add] at hown'; obtain ⟨at1, ct1, rfl, hrd⟩ := own_tbo hown' (by omega); have hblk := own_blk hown'; have hnew := copy_new w kd cs (.slice (some ad) tx.length c1) (.slice a2 ks.length c2) w2 hgrow; have hb2 := hnew.2.2.2; have hl2 := hb2.lt; have u0 := hb2.cell 2; have u1 := hb2.free 2)
      go_meet
      case rel =>
        refine hide ⟨hnew.1.trans (Below.set2 (by omega)), hnew.2.1.setS' (by omega), hnew.2.2.1.setS' (by omega), ⟨at1, ct1, .slice none 0 0, hb2.at2, ?_, ?_, by rw [List.take_zero]; exact OwnR.nil _ _ _⟩, Nat.zero_le _⟩
        · exact TBo.keep hrd ((Keep.refl _ _).setS (by omega))
        · intro k hk; rw [size_setCell]; exact hblk k hk
  case rest =>
    have HC := hide hcut.out
    go_wp2_with fail
    go_loopg [4] ks.length (fun u v4 wr => ∃ k : Nat, Hid (u = ks.length - k) ∧ v4 = .int .i64 (k : Int) ∧ Hid (CopyRelT w kd cs tx ks #[.int .i64 kd, .string cs, .slice a1 tx.length c1, .slice a2 ks.length c2] k wr))
    case atStart => exact ⟨0, rfl, rfl, HC.out⟩
    case round =>
      obtain ⟨k, hu, rfl, hr⟩ := hrel
      have hle := hr.out.le
      have p3 := hr.out.b0.cell 3
      have pl := hr.out.b0.lt
      by_cases hlt : k < ks.length
      · have hlti : (k : Int) < (ks.length : Int) := by omega
        obtain ⟨at1, ct1, vk, hb2, hrd, htb, hownR⟩ := hr.out.ex
        obtain ⟨bk, ok, x1, k1, x3, k3, rfl, hbl, e0, e1, e2, e3, hx⟩ := HK.out.get k hlt
        have hbelow := hr.out.below
        have e0' := (hbelow.cell (p := ⟨bk, ok + k * 4, none⟩) hbl).trans e0
        have e1' := (hbelow.cell (p := ⟨bk, ok + k * 4 + 1, none⟩) hbl).trans e1
        have e2' := (hbelow.cell (p := ⟨bk, ok + k * 4 + 2, none⟩) hbl).trans e2
        have e3' := (hbelow.cell (p := ⟨bk, ok + k * 4 + 3, none⟩) hbl).trans e3
        have hbl' := Nat.lt_of_lt_of_le hbl hbelow.size
        have HX := hide (HI.out ks[k] (List.getElem_mem hlt) (by have := cntL_mem (List.getElem_mem hlt); have := HCN.out; omega) _ wr (RT.below hbelow hx))
        have hws := hbelow.size
        clear hx e0 e1 e2 e3
        go_wp2_with fail
        refine HX.out.mono ?_
        rintro e w3 ⟨⟨v3, rfl, htree⟩, h3⟩
        obtain ⟨z1, m1, z2, m2, rfl, _, _, _, _⟩ := htree.rt.open
        have hb3 := hb2.below h3
        have hb0 := hr.out.b0.below h3
        have hb1 := hr.out.b1.below h3
        have hrd3 := TBo.keep hrd (keep_below h3)
        obtain ⟨xs, hown0⟩ := hownR.own
        have hown := own_below hown0 h3
        have hvo : ∀ j, vk.ownBlock = some j → w.heap.size + 3 ≤ j ∧ j < wr.heap.size := fun j hj => by
          obtain ⟨q1, q2, _⟩ := own_cells hown0 hj
          exact ⟨q1, q2⟩
        have t3 : w3.cell? ⟨w.heap.size + 1 + 1, 3, none⟩ = some vk := hb3.cell 3
        have tl : w.heap.size + 1 + 1 < w3.heap.size := hb3.lt
        have h3s := h3.size
        have hnew : ∀ j u, [Value.int .i64 ks[k].kind, .string ks[k].cons, .slice z1 ks[k].text.length m1, .slice z2 ks[k].kids.length m2][j]? = some u → ((w3.alloc (.cells #[.int .i64 ks[k].kind, .string ks[k].cons, .slice z1 ks[k].text.length m1, .slice z2 ks[k].kids.length m2] 25)).alloc (.cells #[.int .i64 ks[k].kind, .string ks[k].cons, .slice z1 ks[k].text.length m1, .slice z2 ks[k].kids.length m2] 25)).cell? ((⟨w3.heap.size + 1, 0, none⟩ : Addr).add j) = some u := by
          have := four_new (w3.alloc (.cells #[.int .i64 ks[k].kind, .string ks[k].cons, .slice z1 ks[k].text.length m1, .slice z2 ks[k].kids.length m2] 25)) (.int .i64 ks[k].kind) (.string ks[k].cons) (.slice z1 ks[k].text.length m1) (.slice z2 ks[k].kids.length m2) 25
          rw [World.size_alloc] at this
          exact this
        have hl2 := hb2.lt
        have hBA : Below w.heap.size w ((w3.alloc (.cells #[.int .i64 ks[k].kind, .string ks[k].cons, .slice z1 ks[k].text.length m1, .slice z2 ks[k].kids.length m2] 25)).alloc (.cells #[.int .i64 ks[k].kind, .string ks[k].cons, .slice z1 ks[k].text.length m1, .slice z2 ks[k].kids.length m2] 25)) := ((hbelow.trans (h3.mono hws)).alloc (by omega) _).alloc (by rw [World.size_alloc]; omega) _
        have hsA : w3.heap.size ≤ ((w3.alloc (.cells #[.int .i64 ks[k].kind, .string ks[k].cons, .slice z1 ks[k].text.length m1, .slice z2 ks[k].kids.length m2] 25)).alloc (.cells #[.int .i64 ks[k].kind, .string ks[k].cons, .slice z1 ks[k].text.length m1, .slice z2 ks[k].kids.length m2] 25)).heap.size := by rw [World.size_alloc, World.size_alloc]; omega
        have hb0' := (hb0.alloc (.cells #[.int .i64 ks[k].kind, .string ks[k].cons, .slice z1 ks[k].text.length m1, .slice z2 ks[k].kids.length m2] 25)).alloc (.cells #[.int .i64 ks[k].kind, .string ks[k].cons, .slice z1 ks[k].text.length m1, .slice z2 ks[k].kids.length m2] 25)
        have hb1' := (hb1.alloc (.cells #[.int .i64 ks[k].kind, .string ks[k].cons, .slice z1 ks[k].text.length m1, .slice z2 ks[k].kids.length m2] 25)).alloc (.cells #[.int .i64 ks[k].kind, .string ks[k].cons, .slice z1 ks[k].text.length m1, .slice z2 ks[k].kids.length m2] 25)
        have hb3' := (hb3.alloc (.cells #[.int .i64 ks[k].kind, .string ks[k].cons, .slice z1 ks[k].text.length m1, .slice z2 ks[k].kids.length m2] 25)).alloc (.cells #[.int .i64 ks[k].kind, .string ks[k].cons, .slice z1 ks[k].text.length m1, .slice z2 ks[k].kids.length m2] 25)
        have hlt2 : (ks.take k).length = k := by rw [List.length_take]; omega
        have hA2 : Below w3.heap.size w3 ((w3.alloc (.cells #[.int .i64 ks[k].kind, .string ks[k].cons, .slice z1 ks[k].text.length m1, .slice z2 ks[k].kids.length m2] 25)).alloc (.cells #[.int .i64 ks[k].kind, .string ks[k].cons, .slice z1 ks[k].text.length m1, .slice z2 ks[k].kids.length m2] 25)) := ((Below.refl _ w3).alloc (Nat.le_refl _) _).alloc (by rw [World.size_alloc]; omega) _
        have hrow3 : w.heap.size + 3 ≤ wr.heap.size := by have := hb2.lt; omega
        have htb' : ∀ j, some j = at1.map (·.block) → j < wr.heap.size := fun j hj => (htb j hj).2
        go_wp2_with (at_builtin; refine wpList_append_own_at _ rfl _ _ 23 rfl (w.heap.size + 3) 25 j0 _ 4 72 Try.underlying23 hj hy0 hy1 hy2 rfl (by decide) _ _ _ rfl (World.ownsRow.alloc (World.ownsRow.alloc hown _) _) ⟨w3.heap.size + 1, 0, none⟩ 1 1 _ rfl rfl hnew (by simp [Value.oneCell']) (by unfold maxLen; omega) (by omega) (by simp; omega) ?_; intro v' w4 hown' hgrow hnil hat; replace hgrow : World.grownBy ((w3.alloc (.cells #[.int .i64 ks[k].kind, .string ks[k].cons, .slice z1 ks[k].text.length m1, .slice z2 ks[k].kids.length m2] 25)).alloc (.cells #[.int .i64 ks[k].kind, .string ks[k].cons, .slice z1 ks[k].text.length m1, .slice z2 ks[k].kids.length m2] 25)) w4 vk.ownBlock := hgrow; replace hat : v'.ownBlock = vk.ownBlock ∨ v'.ownBlock = some ((w3.alloc (.cells #[.int .i64 ks[k].kind, .string ks[k].cons, .slice z1 ks[k].text.length m1, .slice z2 ks[k].kids.length m2] 25)).alloc (.cells #[.int .i64 ks[k].kind, .string ks[k].cons, .slice z1 ks[k].text.length m1, .slice z2 ks[k].kids.length m2] 25)).heap.size := hat; have hP := OwnR.step hownR hown0 hrow3 h3 htree hA2 hgrow hown' hat htb'; obtain ⟨ak, ck, rfl⟩ := hP.shown; have hb4 := hb3'.grown hgrow (fun e => by have := hvo _ e.symm; omega); have hl4 : w.heap.size + 1 + 1 < w4.heap.size := hb4.lt; have t4 : w4.cell? ⟨w.heap.size + 1 + 1, 3, none⟩ = some vk := hb4.cell 3; have y4 : w4.frozen? ⟨w.heap.size + 1 + 1, 3, none⟩ = false := hb4.free 3)
        go_roundg (ks.length - (k + 1))
        case measure => rw [hu.out]; omega
        case rel =>
          have hmin : (ks.take k ++ [ks[k]]).length = min (k + 1) ks.length := by rw [List.length_append, List.length_singleton]; omega
          rw [hmin] at hat hP
          refine ⟨k + 1, rfl, rfl, hide ⟨?_, ?_, ?_, ⟨at1, ct1, _, hb4.at3, ?_, ?_, ?_⟩, hlt⟩⟩
          · exact (Go.Proofs.Ytfndldfnlncabaa.Below.grown hBA (by omega) hgrow (fun j hj => by have := hvo j hj; omega)).trans (Below.set2 (by omega))
          · exact (hb0'.grown hgrow (fun e => by have := hvo _ e.symm; omega)).setS' (by omega)
          · exact (hb1'.grown hgrow (fun e => by have := hvo _ e.symm; omega)).setS' (by omega)
          · refine TBo.keep (w := w4) ?_ ((Keep.refl _ _).setS (fun h => by have h' : w.heap.size + 3 ≤ w.heap.size + 1 + 1 := h; omega))
            refine ⟨hrd3.1, fun hn => ?_⟩
            obtain ⟨tb, cur, e, ho, hh, hc⟩ := hrd3.2 hn
            have htl := (Array.getElem?_eq_some_iff.1 hh).1
            refine ⟨tb, cur, e, ho, (hgrow.block tb (by omega) (fun e2 => ?_)).trans ((hA2.block tb htl).trans hh), hc⟩
            exact (hownR.trees tb e2.symm).1 (by rw [e]; rfl)
          · intro j hj
            have hj1 := htb j hj
            have hj2 := hgrow.size
            rw [size_setCell]
            exact ⟨hj1.1, by omega⟩
          · rw [List.take_add_one, List.getElem?_eq_getElem hlt]
            exact hP.keep ((Keep.refl _ _).setS (fun h => by have h' : w.heap.size + 3 ≤ w.heap.size + 1 + 1 := h; omega))
      · have hlti : ¬ (k : Int) < (ks.length : Int) := by omega
        obtain ⟨at1, ct1, vk, hb2, hrd, htb, hown⟩ := hr.out.ex
        rw [List.take_of_length_le (by omega)] at hown
        obtain ⟨ak, ck, rfl⟩ := hown.shown
        have hT := Tree.shut (c1 := ct1) hkd hcs hk1 hrd hown
        have HE := hide (copy_endT (v0 := .int .i64 kd) (v1 := .string cs) (v2 := .slice at1 tx.length ct1) (v3 := .slice ak ks.length ck) hr.out.below hT)
        have d0 := hr.out.b1.cell 0
        have d1 := hr.out.b1.cell 1
        have d2 := hr.out.b1.cell 2
        have d3 := hr.out.b1.cell 3
        have dz0 := hr.out.b1.free 0
        have dz1 := hr.out.b1.free 1
        have dz2 := hr.out.b1.free 2
        have dz3 := hr.out.b1.free 3
        have dl := hr.out.b1.lt
        have t0 : wr.cell? ⟨w.heap.size + 1 + 1, 0, none⟩ = some (.int .i64 kd) := hb2.cell 0
        have t1 : wr.cell? ⟨w.heap.size + 1 + 1, 1, none⟩ = some (.string cs) := hb2.cell 1
        have t2 : wr.cell? ⟨w.heap.size + 1 + 1, 2, none⟩ = some (.slice at1 tx.length ct1) := hb2.cell 2
        have t3 : wr.cell? ⟨w.heap.size + 1 + 1, 3, none⟩ = some (.slice ak ks.length ck) := hb2.cell 3
        have tl : w.heap.size + 1 + 1 < wr.heap.size := hb2.lt
        clear hT hrd hown hb2
        go_wp2_with fail
        exact ret21 rfl rfl (Blk.lay hr.out.b1) ⟨⟨_, rfl, HE.out.1⟩, HE.out.2⟩
end Go.Proofs.Ytfndldfnlncabaa
