/- The walk of the reference's Copy. -/
import Derived.Test.YtfndldfnlncabaaTermA
import Derived.Test.YtfndldfnlncabaaQuoted
import Derived.Test.YtfndldfnlncabaaPlain
import Derived.Deep.LoopGhost
import Derived.Deep.DeepCutAuto
import Derived.Deep.CutBlock
import Derived.Maps.AppendAt
import Derived.OwnWalk
namespace Go.Proofs.Ytfndldfnlncabaa
set_option linter.unnecessarySimpa false
set_option linter.deprecated false
open Go.RowKit
set_option linter.unusedVariables false
set_option linter.unusedSimpArgs false

structure CopyRel (w : World) (kd : Int) (cs : ByteArray) (tx : List UInt8) (ks : List Tm) (va : Array Value) (k : Nat) (w2 : World) : Prop where
  below : Below w.heap.size w w2
  b0 : Blk w2 w.heap.size va 25
  b1 : Blk w2 (w.heap.size + 1) #[.int .i64 0, .string emptyB, .slice none 0 0, .slice none 0 0] 25
  ex : ∃ at_ ct vk, Blk w2 (w.heap.size + 2) #[.int .i64 kd, .string cs, .slice at_ tx.length ct, vk] 25 ∧ RBo (fun k => w.heap.size + 3 ≤ k ∧ some k ≠ vk.ownBlock) w2 at_ tx ∧ OwnT (w.heap.size + 3) (ks.take k) vk w2
  le : k ≤ ks.length

theorem byteCells_at {w : World} {a : Addr} {b o : Nat} {t : List UInt8} (ha : a = ⟨b, o, none⟩) (h : RBs w b o t) : ∀ j u, (Lib.byteCells t)[j]? = some u → w.cell? (a.add j) = some u := by
  intro j u hj
  subst ha
  simp only [Lib.byteCells, List.getElem?_map, Option.map_eq_some_iff] at hj
  obtain ⟨c, hc, rfl⟩ := hj
  have hlt : j < t.length := (List.getElem?_eq_some_iff.1 hc).1
  have h1 := h j hlt
  rw [hc, Option.getD_some] at h1
  rw [← h1]
  unfold Addr.add
  split
  · rename_i e; subst e; rfl
  · rfl

theorem copy_new (w : World) (kd : Int) (cs : ByteArray) (x y : Value) (w2 : World) (hg : World.grownBy (((w.alloc (.cells #[.int .i64 kd, .string cs, x, y] 25)).alloc (.cells #[.int .i64 0, .string emptyB, .slice none 0 0, .slice none 0 0] 25)).alloc (.cells #[.int .i64 kd, .string cs, .slice none 0 0, .slice none 0 0] 25)) w2 none) :
    Below w.heap.size w w2 ∧ Blk w2 w.heap.size #[.int .i64 kd, .string cs, x, y] 25 ∧ Blk w2 (w.heap.size + 1) #[.int .i64 0, .string emptyB, .slice none 0 0, .slice none 0 0] 25 ∧ Blk w2 (w.heap.size + 1 + 1) #[.int .i64 kd, .string cs, .slice none 0 0, .slice none 0 0] 25 := by
  have h1 : Blk ((w.alloc (.cells #[.int .i64 kd, .string cs, x, y] 25)).alloc (.cells #[.int .i64 0, .string emptyB, .slice none 0 0, .slice none 0 0] 25)) (w.heap.size + 1) #[.int .i64 0, .string emptyB, .slice none 0 0, .slice none 0 0] 25 := by
    have := Blk.new (w.alloc (.cells #[.int .i64 kd, .string cs, x, y] 25)) #[.int .i64 0, .string emptyB, .slice none 0 0, .slice none 0 0] 25
    rw [World.size_alloc] at this
    exact this
  have h2 : Blk (((w.alloc (.cells #[.int .i64 kd, .string cs, x, y] 25)).alloc (.cells #[.int .i64 0, .string emptyB, .slice none 0 0, .slice none 0 0] 25)).alloc (.cells #[.int .i64 kd, .string cs, .slice none 0 0, .slice none 0 0] 25)) (w.heap.size + 1 + 1) #[.int .i64 kd, .string cs, .slice none 0 0, .slice none 0 0] 25 := by
    have := Blk.new ((w.alloc (.cells #[.int .i64 kd, .string cs, x, y] 25)).alloc (.cells #[.int .i64 0, .string emptyB, .slice none 0 0, .slice none 0 0] 25)) #[.int .i64 kd, .string cs, .slice none 0 0, .slice none 0 0] 25
    rw [World.size_alloc, World.size_alloc] at this
    exact this
  refine ⟨⟨hg.os, hg.tape, hg.output, Nat.le_trans (by simp; omega) hg.size, fun k hk => ?_⟩, (((Blk.new w _ _).alloc _).alloc _).grown hg (by simp), (h1.alloc _).grown hg (by simp), h2.grown hg (by simp)⟩
  exact (hg.block k (by simp; omega) (by simp)).trans ((((Below.refl w.heap.size w).alloc (Nat.le_refl _) _).alloc (by simp) _).alloc (by simp; omega) _ |>.block k hk)

theorem Below.set2 {B : Nat} {w : World} {b i : Nat} {v : Value} (hb : B ≤ b) : Below B w (w.setCell ⟨b, i, none⟩ v) :=
  ⟨rfl, rfl, rfl, by rw [size_setCell]; exact Nat.le_refl _, fun k hk => Below.heap_setCell _ _ _ _ (by show k ≠ b; omega)⟩
theorem Blk.at2 {w : World} {k : Nat} {a b c d v : Value} {t : TypeId} (h : Blk w k #[a, b, c, d] t) : Blk (w.setCell ⟨k, 2, none⟩ v) k #[a, b, v, d] t := by
  unfold Blk at *
  simp only [World.setCell, Array.getElem?_modify, h]
  simp
theorem Blk.at3 {w : World} {k : Nat} {a b c d v : Value} {t : TypeId} (h : Blk w k #[a, b, c, d] t) : Blk (w.setCell ⟨k, 3, none⟩ v) k #[a, b, c, v] t := by
  unfold Blk at *
  simp only [World.setCell, Array.getElem?_modify, h]
  simp
theorem RBo.grown {B : Nat} {v v' : Value} {w w' : World} (hg : w.grownBy w' v.ownBlock) (hat : v'.ownBlock = v.ownBlock ∨ v'.ownBlock = some w.heap.size) {a : Option Addr} {t : List UInt8} (h : RBo (fun k => B ≤ k ∧ some k ≠ v.ownBlock) w a t) : RBo (fun k => B ≤ k ∧ some k ≠ v'.ownBlock) w' a t := by
  refine ⟨h.1, fun hn => ?_⟩
  obtain ⟨b, o, e, ho, hb, hr⟩ := h.2 hn
  refine ⟨b, o, e, ⟨ho.1, ?_⟩, Nat.lt_of_lt_of_le hb hg.size, fun i hi => (World.cell?_of_block (w := w) (hg.block b hb ho.2)).trans (hr i hi)⟩
  rcases hat with e | e
  · rw [e]; exact ho.2
  · rw [e]
    intro e2
    injection e2 with e2
    omega
theorem Below.grown {B : Nat} {a w w' : World} {row : Option Nat} (h : Below B a w) (hB : B ≤ w.heap.size) (hg : w.grownBy w' row) (hrow : ∀ k, row = some k → B ≤ k) : Below B a w' :=
  ⟨hg.os.trans h.os, hg.tape.trans h.tape, hg.output.trans h.output, Nat.le_trans h.size hg.size, fun k hk => (hg.block k (by omega) (fun e => by have := hrow k e.symm; omega)).trans (h.block k hk)⟩
theorem ret21 {R : Ending → World → Prop} {a : Act} {W : World} {k : Nat} {v0 v1 v2 v3 : Value} (h4 : (a.tmps[2]?).getD undef = .pointer (some ⟨k, 0, none⟩)) (hd : a.defers = []) (hb : Blk W k #[v0, v1, v2, v3] 25) (hR : R (.returned (.agg #[v0, v1, v2, v3])) W) : bodyPost Try.prog Try.f21 R .ret a W := by
  have f0 : W.cell? ⟨k, 0, none⟩ = some v0 := hb.cell 0
  have f1 : W.cell? ⟨k, 1, none⟩ = some v1 := hb.cell 1
  have f2 : W.cell? ⟨k, 2, none⟩ = some v2 := hb.cell 2
  have f3 : W.cell? ⟨k, 3, none⟩ = some v3 := hb.cell 3
  refine bodyPost_ret (v := .agg #[v0, v1, v2, v3]) ?_ hd hR
  simp [results, Try.results21, h4, go_sem, f0, f1, f2, f3]
theorem copy_end {w w2 : World} {T : Tm} {v : Value} {v0 v1 v2 v3 : Value} (hb : Below w.heap.size w w2) (hT : RTo (fun k => w.heap.size + 3 ≤ k) w2 T v) :
    RTo (fun k => w.heap.size ≤ k) (lay4 w2 (w.heap.size + 1) v0 v1 v2 v3) T v ∧ Below w.heap.size w (lay4 w2 (w.heap.size + 1) v0 v1 v2 v3) := by
  refine ⟨RTo.weak (fun k hk => by omega) (RTo.keep (Keep.setS (Keep.setS (Keep.setS (Keep.setS (Keep.refl _ _) ?_) ?_) ?_) ?_) hT), ?_⟩
  · omega
  · omega
  · omega
  · omega
  · exact hb.trans ((Below.set2 (by omega)).trans ((Below.set2 (by omega)).trans ((Below.set2 (by omega)).trans (Below.set2 (by omega)))))
theorem Blk.setS' {w : World} {k : Nat} {c : Array Value} {t : TypeId} (h : Blk w k c t) {b i : Nat} {v : Value} (hb : b ≠ k) : Blk (w.setCell ⟨b, i, none⟩ v) k c t :=
  (Below.heap_setCell _ _ _ _ (fun e => hb e.symm)).trans h

theorem len_cntL : ∀ ks : List Tm, ks.length ≤ cntL ks
  | [] => by simp [cntL]
  | x :: xs => by rw [cntL, List.length_cons]; have := cnt_pos x; have := len_cntL xs; omega
def CopyOk (T : Tm) : Prop := cnt T ≤ 1000000 → ∀ (v : Value) (w : World), RT w T v → Calls Try.prog 21 #[v] w fun e w' => (∃ v', e = .returned v' ∧ RTo (fun k => w.heap.size ≤ k) w' T v') ∧ Below w.heap.size w w'

set_option maxHeartbeats 2000000 in
set_option maxRecDepth 100000 in
theorem copy_any : ∀ T, CopyOk T := by
  refine Tm.induct fun kd cs tx ks ih => ?_
  intro hcnt v w hT
  rw [cnt] at hcnt
  have hkc : ks.length ≤ 1000000 := by have := len_cntL ks; omega
  have HCN := hide hcnt
  clear hcnt
  obtain ⟨a1, c1, a2, c2, rfl, hkd, hcs, ht1, hks⟩ := hT.open
  simp only [Tm.kind, Tm.cons, Tm.text, Tm.kids] at hks ht1 hkd hcs ⊢
  have HK := hide hks
  have HT := hide ht1
  have HI := hide ih
  have hk1 := hks.1
  have ht2 := ht1.1
  obtain ⟨i0, hi, hz0, hz1, hz2⟩ := info_parts info5
  obtain ⟨j0, hj, hy0, hy1, hy2⟩ := info_parts info25
  clear hks ht1 ih hT
  go_enter Try.func21, Try.ntmps21
  go_upto_region 2 with fail
  go_cut [15] (fun _ wc => Hid (CopyRel w kd cs tx ks #[.int .i64 kd, .string cs, .slice a1 tx.length c1, .slice a2 ks.length c2] 0 wc))
  case first =>
    have hw3 : w.heap.size + 3 ≤ (((w.alloc (.cells #[.int .i64 kd, .string cs, .slice a1 tx.length c1, .slice a2 ks.length c2] 25)).alloc (.cells #[.int .i64 0, .string emptyB, .slice none 0 0, .slice none 0 0] 25)).alloc (.cells #[.int .i64 kd, .string cs, .slice none 0 0, .slice none 0 0] 25)).heap.size := by simp
    rcases a1 with _ | ad
    · have h0 : tx = [] := by
        by_cases h : tx = []
        · exact h
        · obtain ⟨b, o, e, _⟩ := HT.out.get h
          cases e
      subst h0
      simp only [List.length_nil]
      go_wp2_with fail
      go_meet
      case rel =>
        have h := copy_new w kd cs (.slice none 0 c1) (.slice a2 ks.length c2) _ ⟨rfl, rfl, rfl, Nat.le_refl _, fun _ _ _ => rfl⟩
        exact hide ⟨h.1, h.2.1, h.2.2.1, ⟨none, 0, .slice none 0 0, h.2.2.2, RBo.nil, by rw [List.take_zero]; exact OwnT.nil _ _⟩, Nat.zero_le _⟩
    · have hcells : ∀ j u, (Lib.byteCells tx)[j]? = some u → (((w.alloc (.cells #[.int .i64 kd, .string cs, .slice (some ad) tx.length c1, .slice a2 ks.length c2] 25)).alloc (.cells #[.int .i64 0, .string emptyB, .slice none 0 0, .slice none 0 0] 25)).alloc (.cells #[.int .i64 kd, .string cs, .slice none 0 0, .slice none 0 0] 25)).cell? (ad.add j) = some u := by
        by_cases h : tx = []
        · subst h; intro j u hj; simp [Lib.byteCells] at hj
        · obtain ⟨b, o, e, hlt, hr⟩ := HT.out.get h
          injection e with e
          refine byteCells_at e (RBs.below hlt hr ((((Below.refl _ _).alloc (Nat.le_refl _) _).alloc (by simp) _).alloc (by simp; omega) _))
      have hc1 : (Lib.byteCells tx).length = tx.length * 1 := by rw [Lib.byteCells_length]; omega
      have hc2 : ∀ u ∈ Lib.byteCells tx, u.oneCell' = true := by
        intro u hu
        simp only [Lib.byteCells, List.mem_map] at hu
        obtain ⟨c, _, rfl⟩ := hu
        rfl
      have hc3 : 0 + tx.length ≤ maxLen := by unfold maxLen; omega
      have hc4 : (0 + tx.length) * 1 ≤ 140737488355328 := by omega
      go_wp2_with (at_builtin; refine wpList_append_own_at _ rfl _ _ 22 rfl (w.heap.size + 3) 5 i0 _ 1 1 Try.underlying22 hi hz0 hz1 hz2 rfl (by decide) _ 0 [] rfl (World.ownsRow_nil _ _ _ _) ad tx.length c1 (Lib.byteCells tx) rfl hc1 hcells hc2 hc3 hc4 hw3 ?_; intro v' w2 hown' hgrow hnil hat; rw [List.nil_append, Nat.zero_add] at hown'; obtain ⟨at1, ct1, rfl, hrd⟩ := own_reads hown' (by omega); have hnew := copy_new w kd cs (.slice (some ad) tx.length c1) (.slice a2 ks.length c2) w2 hgrow; have hb2 := hnew.2.2.2; have hl2 := hb2.lt; have u0 := hb2.cell 2; have u1 := hb2.free 2)
      go_meet
      case rel =>
        refine hide ⟨hnew.1.trans (Below.set2 (by omega)), hnew.2.1.setS' (by omega), hnew.2.2.1.setS' (by omega), ⟨at1, ct1, .slice none 0 0, hb2.at2, ?_, by rw [List.take_zero]; exact OwnT.nil _ _⟩, Nat.zero_le _⟩
        exact RBo.weak (fun k hk => ⟨hk, by simp [Value.ownBlock]⟩) (RBo.keep ((Keep.refl _ _).setS (by omega)) hrd)
  case rest =>
    have HC := hide hcut.out
    go_wp2_with fail
    go_loopg [4] ks.length (fun u v4 wr => ∃ k : Nat, Hid (u = ks.length - k) ∧ v4 = .int .i64 (k : Int) ∧ Hid (CopyRel w kd cs tx ks #[.int .i64 kd, .string cs, .slice a1 tx.length c1, .slice a2 ks.length c2] k wr))
    case atStart => exact ⟨0, rfl, rfl, HC.out⟩
    case round =>
      obtain ⟨k, hu, rfl, hr⟩ := hrel
      have hle := hr.out.le
      have p3 := hr.out.b0.cell 3
      have pl := hr.out.b0.lt
      by_cases hlt : k < ks.length
      · have hlti : (k : Int) < (ks.length : Int) := by omega
        obtain ⟨at1, ct1, vk, hb2, hrd, hownT⟩ := hr.out.ex
        obtain ⟨bk, ok, x1, k1, x3, k3, rfl, hbl, e0, e1, e2, e3, hx⟩ := HK.out.get k hlt
        have hbelow := hr.out.below
        have e0' := (hbelow.cell (p := ⟨bk, ok + k * 4, none⟩) hbl).trans e0
        have e1' := (hbelow.cell (p := ⟨bk, ok + k * 4 + 1, none⟩) hbl).trans e1
        have e2' := (hbelow.cell (p := ⟨bk, ok + k * 4 + 2, none⟩) hbl).trans e2
        have e3' := (hbelow.cell (p := ⟨bk, ok + k * 4 + 3, none⟩) hbl).trans e3
        have hbl' := Nat.lt_of_lt_of_le hbl hbelow.size
        have HX := hide (HI.out ks[k] (List.getElem_mem hlt) (by have := cntL_mem (List.getElem_mem hlt); have := HCN.out; omega) _ wr (RT.below hbelow hx))
        have hws := hbelow.size
        clear hx e0 e1 e2 e3
        go_wp2_with fail
        refine HX.out.mono ?_
        rintro e w3 ⟨⟨v3, rfl, hv3⟩, h3⟩
        obtain ⟨z1, m1, z2, m2, rfl, _, _, _, _⟩ := hv3.open
        have hb3 := hb2.below h3
        have hb0 := hr.out.b0.below h3
        have hb1 := hr.out.b1.below h3
        have hown3 := hownT.keep (keep_below h3)
        have hrd3 := RBo.keep (keep_below h3) hrd
        have hvo : ∀ j, vk.ownBlock = some j → w.heap.size + 3 ≤ j ∧ j < wr.heap.size := fun j hj => by
          obtain ⟨cs0, _, hown0, _⟩ := hownT.ex
          rcases hown0.2 with ⟨rfl, _⟩ | ⟨b, _, _, rfl, hB, hb, _⟩
          · cases hj
          · injection hj with hj
            subst hj
            exact ⟨hB, (Array.getElem?_eq_some_iff.1 hb).1⟩
        obtain ⟨ds, hdl, hown, hds⟩ := hown3.ex
        have t3 : w3.cell? ⟨w.heap.size + 1 + 1, 3, none⟩ = some vk := hb3.cell 3
        have tl : w.heap.size + 1 + 1 < w3.heap.size := hb3.lt
        have h3s := h3.size
        have hnew : ∀ j u, [Value.int .i64 ks[k].kind, .string ks[k].cons, .slice z1 ks[k].text.length m1, .slice z2 ks[k].kids.length m2][j]? = some u → ((w3.alloc (.cells #[.int .i64 ks[k].kind, .string ks[k].cons, .slice z1 ks[k].text.length m1, .slice z2 ks[k].kids.length m2] 25)).alloc (.cells #[.int .i64 ks[k].kind, .string ks[k].cons, .slice z1 ks[k].text.length m1, .slice z2 ks[k].kids.length m2] 25)).cell? ((⟨w3.heap.size + 1, 0, none⟩ : Addr).add j) = some u := by
          have := four_new (w3.alloc (.cells #[.int .i64 ks[k].kind, .string ks[k].cons, .slice z1 ks[k].text.length m1, .slice z2 ks[k].kids.length m2] 25)) (.int .i64 ks[k].kind) (.string ks[k].cons) (.slice z1 ks[k].text.length m1) (.slice z2 ks[k].kids.length m2) 25
          rw [World.size_alloc] at this
          exact this
        have hl2 := hb2.lt
        have hBA : Below w.heap.size w ((w3.alloc (.cells #[.int .i64 ks[k].kind, .string ks[k].cons, .slice z1 ks[k].text.length m1, .slice z2 ks[k].kids.length m2] 25)).alloc (.cells #[.int .i64 ks[k].kind, .string ks[k].cons, .slice z1 ks[k].text.length m1, .slice z2 ks[k].kids.length m2] 25)) := ((hbelow.trans (h3.mono hws)).alloc (by omega) _).alloc (by rw [World.size_alloc]; omega) _
        have hsA : w3.heap.size ≤ ((w3.alloc (.cells #[.int .i64 ks[k].kind, .string ks[k].cons, .slice z1 ks[k].text.length m1, .slice z2 ks[k].kids.length m2] 25)).alloc (.cells #[.int .i64 ks[k].kind, .string ks[k].cons, .slice z1 ks[k].text.length m1, .slice z2 ks[k].kids.length m2] 25)).heap.size := by rw [World.size_alloc, World.size_alloc]; omega
        have hb0' := (hb0.alloc (.cells #[.int .i64 ks[k].kind, .string ks[k].cons, .slice z1 ks[k].text.length m1, .slice z2 ks[k].kids.length m2] 25)).alloc (.cells #[.int .i64 ks[k].kind, .string ks[k].cons, .slice z1 ks[k].text.length m1, .slice z2 ks[k].kids.length m2] 25)
        have hb1' := (hb1.alloc (.cells #[.int .i64 ks[k].kind, .string ks[k].cons, .slice z1 ks[k].text.length m1, .slice z2 ks[k].kids.length m2] 25)).alloc (.cells #[.int .i64 ks[k].kind, .string ks[k].cons, .slice z1 ks[k].text.length m1, .slice z2 ks[k].kids.length m2] 25)
        have hkeep : Keep (fun j => w.heap.size + 3 ≤ j ∧ some j ≠ vk.ownBlock) w3 ((w3.alloc (.cells #[.int .i64 ks[k].kind, .string ks[k].cons, .slice z1 ks[k].text.length m1, .slice z2 ks[k].kids.length m2] 25)).alloc (.cells #[.int .i64 ks[k].kind, .string ks[k].cons, .slice z1 ks[k].text.length m1, .slice z2 ks[k].kids.length m2] 25)) := (Keep.refl _ _).allocS.allocS
        have hds' := fun (i : Nat) (hi : i < (ks.take k).length) => (hds i hi).imp fun q hq => And.intro hq.1 (RTo.keep hkeep hq.2)
        have hx' := RTo.keep hkeep (RTo.weak (ok' := fun j => w.heap.size + 3 ≤ j ∧ some j ≠ vk.ownBlock) (fun j hj => by have hj' : wr.heap.size ≤ j := hj; exact ⟨by omega, fun e => by have := hvo j e.symm; omega⟩) hv3)
        have hb3' := (hb3.alloc (.cells #[.int .i64 ks[k].kind, .string ks[k].cons, .slice z1 ks[k].text.length m1, .slice z2 ks[k].kids.length m2] 25)).alloc (.cells #[.int .i64 ks[k].kind, .string ks[k].cons, .slice z1 ks[k].text.length m1, .slice z2 ks[k].kids.length m2] 25)
        have hrd' := RBo.keep hkeep hrd3
        have hlt2 : (ks.take k).length = k := by rw [List.length_take]; omega
        go_wp2_with (at_builtin; refine wpList_append_own_at _ rfl _ _ 23 rfl (w.heap.size + 3) 25 j0 _ 4 72 Try.underlying23 hj hy0 hy1 hy2 rfl (by decide) _ _ _ rfl (World.ownsRow.alloc (World.ownsRow.alloc hown _) _) ⟨w3.heap.size + 1, 0, none⟩ 1 1 _ rfl rfl hnew (by simp [Value.oneCell']) (by unfold maxLen; omega) (by omega) (by simp; omega) ?_; intro v' w4 hown' hgrow hnil hat; replace hgrow : World.grownBy ((w3.alloc (.cells #[.int .i64 ks[k].kind, .string ks[k].cons, .slice z1 ks[k].text.length m1, .slice z2 ks[k].kids.length m2] 25)).alloc (.cells #[.int .i64 ks[k].kind, .string ks[k].cons, .slice z1 ks[k].text.length m1, .slice z2 ks[k].kids.length m2] 25)) w4 vk.ownBlock := hgrow; replace hat : v'.ownBlock = vk.ownBlock ∨ v'.ownBlock = some ((w3.alloc (.cells #[.int .i64 ks[k].kind, .string ks[k].cons, .slice z1 ks[k].text.length m1, .slice z2 ks[k].kids.length m2] 25)).alloc (.cells #[.int .i64 ks[k].kind, .string ks[k].cons, .slice z1 ks[k].text.length m1, .slice z2 ks[k].kids.length m2] 25)).heap.size := hat; have hP := OwnT.push hdl hds' hx' hown' hgrow hat; obtain ⟨ak, ck, rfl, hkr⟩ := OwnT.reads hP (by rw [List.length_append, List.length_singleton]; omega); have hb4 := hb3'.grown hgrow (fun e => by have := hvo _ e.symm; omega); have hl4 : w.heap.size + 1 + 1 < w4.heap.size := hb4.lt; have t4 : w4.cell? ⟨w.heap.size + 1 + 1, 3, none⟩ = some vk := hb4.cell 3; have y4 : w4.frozen? ⟨w.heap.size + 1 + 1, 3, none⟩ = false := hb4.free 3)
        go_roundg (ks.length - (k + 1))
        case measure => rw [hu.out]; omega
        case rel =>
          have hmin : (ks.take k ++ [ks[k]]).length = min (k + 1) ks.length := by rw [List.length_append, List.length_singleton]; omega
          rw [hmin] at hat hP
          refine ⟨k + 1, rfl, rfl, hide ⟨?_, ?_, ?_, ⟨at1, ct1, _, hb4.at3, ?_, ?_⟩, hlt⟩⟩
          · exact (Go.Proofs.Ytfndldfnlncabaa.Below.grown hBA (by omega) hgrow (fun j hj => by have := hvo j hj; omega)).trans (Below.set2 (by omega))
          · exact (hb0'.grown hgrow (fun e => by have := hvo _ e.symm; omega)).setS' (by omega)
          · exact (hb1'.grown hgrow (fun e => by have := hvo _ e.symm; omega)).setS' (by omega)
          · exact RBo.keep ((Keep.refl _ _).setS (fun h => by have := h.1; omega)) (RBo.grown hgrow hat hrd')
          · rw [List.take_add_one, List.getElem?_eq_getElem hlt]
            exact hP.keep ((Keep.refl _ _).setS (fun h => by have h' : w.heap.size + 3 ≤ w.heap.size + 1 + 1 := h; omega))
      · have hlti : ¬ (k : Int) < (ks.length : Int) := by omega
        obtain ⟨at1, ct1, vk, hb2, hrd, hown⟩ := hr.out.ex
        rw [List.take_of_length_le (by omega)] at hown
        obtain ⟨ak, ck, rfl, hkr⟩ := OwnT.reads hown hk1
        have hT := RTo.shut hkd hcs (RBo.weak (fun k hk => hk.1) hrd) hkr rfl rfl (c1 := ct1) (c2 := ck)
        have HE := hide (copy_end (v0 := .int .i64 kd) (v1 := .string cs) (v2 := .slice at1 tx.length ct1) (v3 := .slice ak ks.length ck) hr.out.below hT)
        have d0 := hr.out.b1.cell 0
        have d1 := hr.out.b1.cell 1
        have d2 := hr.out.b1.cell 2
        have d3 := hr.out.b1.cell 3
        have dz0 := hr.out.b1.free 0
        have dz1 := hr.out.b1.free 1
        have dz2 := hr.out.b1.free 2
        have dz3 := hr.out.b1.free 3
        have dl := hr.out.b1.lt
        have t0 : wr.cell? ⟨w.heap.size + 1 + 1, 0, none⟩ = some (.int .i64 kd) := hb2.cell 0
        have t1 : wr.cell? ⟨w.heap.size + 1 + 1, 1, none⟩ = some (.string cs) := hb2.cell 1
        have t2 : wr.cell? ⟨w.heap.size + 1 + 1, 2, none⟩ = some (.slice at1 tx.length ct1) := hb2.cell 2
        have t3 : wr.cell? ⟨w.heap.size + 1 + 1, 3, none⟩ = some (.slice ak ks.length ck) := hb2.cell 3
        have tl : w.heap.size + 1 + 1 < wr.heap.size := hb2.lt
        clear hT hkr hrd hown hb2
        go_wp2_with fail
        exact ret21 rfl rfl (Blk.lay hr.out.b1) ⟨⟨_, rfl, HE.out.1⟩, HE.out.2⟩
end Go.Proofs.Ytfndldfnlncabaa
