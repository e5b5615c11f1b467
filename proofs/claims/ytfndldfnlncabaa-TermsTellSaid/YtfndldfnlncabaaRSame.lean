/- The walk of the reference's Same. -/
import Derived.Test.YtfndldfnlncabaaSame
import Derived.StillTailTactics
set_option linter.unnecessarySimpa false
set_option linter.deprecated false
namespace Go.Proofs.Ytfndldfnlncabaa
open Go.RowKit
set_option linter.unusedVariables false
set_option linter.unusedSimpArgs false

/-- The contract of the reference's Same, at a term. -/
def RSameOk (T : Tm) : Prop := ∀ (U : Tm) (v u : Value) (w : World), RT w T v → RT w U u → Calls Try.prog 17 #[v, u] w fun e w' => e = .returned (.bool (sameB T U)) ∧ Below w.heap.size w w'

structure RSRel (w : World) (res : Bool) (va vb : Array Value) (ks ls : List Tm) (k : Nat) (w2 : World) : Prop where
  below : Below w.heap.size w w2
  b1 : Blk w2 w.heap.size va 25
  b2 : Blk w2 (w.heap.size + 1) vb 25
  le : k ≤ ks.length
  eq : sameL (ks.drop k) (ls.drop k) = res

set_option maxHeartbeats 3000000 in
set_option maxRecDepth 100000 in
theorem rsame_any : ∀ T, RSameOk T := by
  refine Tm.induct fun kd cs tx ks ih => ?_
  intro U v u w hT hU
  obtain ⟨ku, cu, tu, ls⟩ := U
  obtain ⟨a1, c1, a2, c2, rfl, _, _, ht1, hks⟩ := hT.open
  obtain ⟨b1, d1, b2, d2, rfl, _, _, ht2, hls⟩ := hU.open
  simp only [Tm.kind, Tm.cons, Tm.text, Tm.kids] at hks hls ht1 ht2 ⊢
  have HW := hide (fun o1 o2 => two_boxes0 w o1 o2)
  have HS1 := fun W (h : Below w.heap.size w W) n hn => (ht1.below h).str n c1 hn
  have HS2 := fun W (h : Below w.heap.size w W) n hn => (ht2.below h).str n d1 hn
  rw [show sameB (.mk kd cs tx ks) (.mk ku cu tu ls) = (decide (kd = ku) && decide (cs = cu) && decide (tx = tu) && sameL ks ls) from by rw [sameB]; rfl]
  have hk1 := hks.1
  have hl1 := hls.1
  have HK := hide hks
  have HL := hide hls
  have HI := hide ih
  have HNE := hide (sameL_len ks ls)
  obtain ⟨m1, hm1⟩ : ∃ m, tx.length = m := ⟨_, rfl⟩
  obtain ⟨m2, hm2⟩ : ∃ m, tu.length = m := ⟨_, rfl⟩
  obtain ⟨n1, hn1⟩ : ∃ m, ks.length = m := ⟨_, rfl⟩
  obtain ⟨n2, hn2⟩ : ∃ m, ls.length = m := ⟨_, rfl⟩
  have HM := hide hn1
  have HN := hide hn2
  have hcv1 := HS1 ((w.alloc (.cells #[.int .i64 kd, .string cs, .slice a1 m1 c1, .slice a2 n1 c2] 25)).alloc (.cells #[.int .i64 ku, .string cu, .slice b1 m2 d1, .slice b2 n2 d2] 25)) (HW.out _ _) m1 hm1.symm
  have hcv2 := HS2 ((w.alloc (.cells #[.int .i64 kd, .string cs, .slice a1 m1 c1, .slice a2 n1 c2] 25)).alloc (.cells #[.int .i64 ku, .string cu, .slice b1 m2 d1, .slice b2 n2 d2] 25)) (HW.out _ _) m2 hm2.symm
  rw [hn1] at hk1
  rw [hn2] at hl1
  rw [hm1, hn1, hm2, hn2]
  clear HS1 HS2 hks hls ht1 ht2 hT hU ih hm1 hm2 hn1 hn2
  by_cases h1 : kd = ku
  · rw [decide_eq_true h1, Bool.true_and]
    subst h1
    by_cases h2 : cs = cu
    · rw [decide_eq_true h2, Bool.true_and]
      subst h2
      by_cases h3 : tx = tu
      · rw [decide_eq_true h3, Bool.true_and]
        subst h3
        by_cases h4 : n1 = n2
        · subst h4
          obtain ⟨res, hres⟩ : ∃ res, sameL ks ls = res := ⟨_, rfl⟩
          rw [hres]
          have HR := hide (show RSRel w res #[.int .i64 kd, .string cs, .slice a1 m1 c1, .slice a2 n1 c2] #[.int .i64 kd, .string cs, .slice b1 m2 d1, .slice b2 n1 d2] ks ls 0 ((w.alloc (.cells #[.int .i64 kd, .string cs, .slice a1 m1 c1, .slice a2 n1 c2] 25)).alloc (.cells #[.int .i64 kd, .string cs, .slice b1 m2 d1, .slice b2 n1 d2] 25)) from by
            refine ⟨HW.out _ _, (Blk.new _ _ _).alloc _, ?_, Nat.zero_le _, hres⟩
            have := Blk.new (w.alloc (.cells #[.int .i64 kd, .string cs, .slice a1 m1 c1, .slice a2 n1 c2] 25)) #[.int .i64 kd, .string cs, .slice b1 m2 d1, .slice b2 n1 d2] 25
            rw [World.size_alloc] at this
            exact this)
          clear hres
          go_enter Try.func17, Try.ntmps17
          go_wp2_with fail
          clear hcv1 hcv2
          go_loopg [5] n1 (fun u v5 wr => ∃ k : Nat, Hid (u = n1 - k) ∧ v5 = .int .i64 (k : Int) ∧ Hid (RSRel w res #[.int .i64 kd, .string cs, .slice a1 m1 c1, .slice a2 n1 c2] #[.int .i64 kd, .string cs, .slice b1 m2 d1, .slice b2 n1 d2] ks ls k wr))
          case atStart => exact ⟨0, rfl, rfl, HR.out⟩
          case round =>
            obtain ⟨k, hu, rfl, hr⟩ := hrel
            have hle := hr.out.le
            have p3 := hr.out.b1.cell 3
            have q3 := hr.out.b2.cell 3
            have pl := hr.out.b1.lt
            have ql := hr.out.b2.lt
            by_cases hlt : k < n1
            · have hlti : (k : Int) < (n1 : Int) := by omega
              have hk2 : k < ks.length := by have := HM.out; omega
              have hl2 : k < ls.length := by have := HN.out; omega
              have heq := hr.out.eq
              rw [List.drop_eq_getElem_cons hk2, List.drop_eq_getElem_cons hl2, sameL] at heq
              obtain ⟨bk, ok, x1, k1, x3, k3, rfl, hbl, e0, e1, e2, e3, hx⟩ := HK.out.get k hk2
              obtain ⟨bl, ol, y1, l1, y3, l3, rfl, hbl2, f0, f1, f2, f3, hy⟩ := HL.out.get k hl2
              have hbelow := hr.out.below
              have e0' := (hbelow.cell (p := ⟨bk, ok + k * 4, none⟩) hbl).trans e0
              have e1' := (hbelow.cell (p := ⟨bk, ok + k * 4 + 1, none⟩) hbl).trans e1
              have e2' := (hbelow.cell (p := ⟨bk, ok + k * 4 + 2, none⟩) hbl).trans e2
              have e3' := (hbelow.cell (p := ⟨bk, ok + k * 4 + 3, none⟩) hbl).trans e3
              have f0' := (hbelow.cell (p := ⟨bl, ol + k * 4, none⟩) hbl2).trans f0
              have f1' := (hbelow.cell (p := ⟨bl, ol + k * 4 + 1, none⟩) hbl2).trans f1
              have f2' := (hbelow.cell (p := ⟨bl, ol + k * 4 + 2, none⟩) hbl2).trans f2
              have f3' := (hbelow.cell (p := ⟨bl, ol + k * 4 + 3, none⟩) hbl2).trans f3
              have hbl' := Nat.lt_of_lt_of_le hbl hbelow.size
              have hbl2' := Nat.lt_of_lt_of_le hbl2 hbelow.size
              have hws := hbelow.size
              have HX := hide (HI.out ks[k] (List.getElem_mem hk2) ls[k] _ _ wr.drew (RT.below hbelow.drew hx) (RT.below hbelow.drew hy))
              have HEQ := hide heq
              have HB := hide hbelow
              clear hx hy e0 e1 e2 e3 f0 f1 f2 f3 hbelow heq
              go_wp2_with fail
              go_still_tail 10, (by kernel_rfl)
              change wpList _ _ _ _ _ wr.drew
              go_wp2_with fail
              refine HX.out.mono ?_
              rintro e w2 ⟨rfl, h2⟩
              have HB2 := hide (HB.out.drew.trans (h2.mono hws))
              have HBA := hide (Blk.below (w := wr.drew) hr.out.b1 h2)
              have HBB := hide (Blk.below (w := wr.drew) hr.out.b2 h2)
              clear h2
              cases hs : sameB ks[k] ls[k] with
              | true =>
                have HQ := hide (show sameL (ks.drop (k + 1)) (ls.drop (k + 1)) = res from by have h := HEQ.out; rw [hs, Bool.true_and] at h; exact h)
                clear hs
                go_wp2_with fail
                go_roundg (n1 - (k + 1))
                case measure => rw [hu.out]; omega
                case rel => exact ⟨k + 1, rfl, rfl, hide ⟨HB2.out, HBA.out, HBB.out, by omega, HQ.out⟩⟩
              | false =>
                have HQ := hide (show false = res from by have h := HEQ.out; rw [hs, Bool.false_and] at h; exact h)
                clear hs
                go_wp2_with fail
                go_ret
                exact ⟨by have h := HQ.out; subst h; rfl, HB2.out⟩
            · have hlti : ¬ (k : Int) < (n1 : Int) := by omega
              have heq := hr.out.eq
              rw [List.drop_eq_nil_of_le (by have := HM.out; omega), List.drop_eq_nil_of_le (by have := HN.out; omega), sameL] at heq
              subst heq
              go_wp2_with fail
              go_ret
              exact ⟨rfl, hr.out.below⟩
        · rw [HNE.out (by have := HM.out; have := HN.out; omega)]
          have h4' : ((n1 : Int) != (n2 : Int)) = true := by simp; omega
          have h4i : ¬ (n1 : Int) = (n2 : Int) := by omega
          go_enter Try.func17, Try.ntmps17
          go_wp2_with fail
          go_ret
          exact ⟨rfl, HW.out _ _⟩
      · rw [decide_eq_false h3, Bool.false_and]
        go_enter Try.func17, Try.ntmps17
        go_wp2_with fail
        go_ret
        exact ⟨rfl, HW.out _ _⟩
    · rw [decide_eq_false h2, Bool.false_and, Bool.false_and]
      have h2' : ¬ cs.toList = cu.toList := fun e => h2 (by rw [ByteArray.toList_eq, ByteArray.toList_eq] at e; exact ByteArray.ext (Array.ext' e))
      clear h2
      go_enter Try.func17, Try.ntmps17
      go_wp2_with fail
      go_ret
      exact ⟨rfl, HW.out _ _⟩
  · rw [decide_eq_false h1, Bool.false_and, Bool.false_and, Bool.false_and]
    go_enter Try.func17, Try.ntmps17
    go_wp2_with fail
    go_ret
    exact ⟨rfl, HW.out _ _⟩
end Go.Proofs.Ytfndldfnlncabaa
