/- The walks of the reference's well, Right, Leaves. -/
import Derived.Test.YtcmhlfnmjpmjhaaRefC
set_option linter.unusedVariables false
set_option linter.unusedSimpArgs false
set_option linter.unnecessarySimpa false
set_option linter.deprecated false
namespace Go.Proofs.Ytcmhlfnmjpmjhaa
open Go.RowKit

theorem noBrk_snoc (s : ByteArray) (k : Nat) (h : k < s.size) : noBrk (s.data.toList.take (k + 1)) = (noBrk (s.data.toList.take k) && (s[k]'h != 10)) := by
  have e : s.data.toList.take (k + 1) = s.data.toList.take k ++ [s[k]'h] := by
    rw [List.take_succ_eq_append_getElem (by simpa using h)]
    simp
    rfl
  rw [e]
  unfold noBrk
  rw [List.all_append]
  simp
theorem noBrk_bad (s : ByteArray) (k : Nat) (h : k < s.size) (hc : s[k]'h = 10) : noBrk s.data.toList = false := by
  unfold noBrk
  rw [List.all_eq_false]
  refine ⟨10, ?_, by simp⟩
  rw [← hc]
  rw [List.mem_iff_getElem?]
  exact ⟨k, by rw [← Array.getElem?_toList.symm]; simp [h]; rfl⟩

set_option maxHeartbeats 4000000 in
set_option maxRecDepth 100000 in
theorem well_any : ∀ (d : Dc), ∀ (v : Value) (w : World), RD w d v → Calls Try.prog 30 #[v] w fun e w' => e = .returned (.bool (wellR d)) ∧ Below w.heap.size w w' := by
  refine Dc.induct fun kd tx nn ks ih => ?_
  intro v w hT
  obtain ⟨a2, c2, rfl, hkd, htx, hnn, hks⟩ := hT.open
  simp only [Dc.kind, Dc.text, Dc.num, Dc.kids] at hks htx hkd hnn ⊢
  have hlen := hks.1
  have HK := hide hks
  have HI := hide ih
  have HR0 := hide (KdRel.start w #[.int .i64 kd, .string tx, .int .i64 nn, .slice a2 ks.length c2] ks)
  clear hks ih hT
  go_enter Try.func30, Try.ntmps30
  go_wp2_with fail
  go_loopg [3] tx.size (fun u v3 wr => ∃ k : Nat, Hid (u = tx.size - k) ∧ v3 = .int .i64 (k : Int) ∧ k ≤ tx.size ∧ Hid (noBrk (tx.data.toList.take k) = true) ∧ wr = w.alloc (.cells #[.int .i64 kd, .string tx, .int .i64 nn, .slice a2 ks.length c2] 24))
  case atStart => exact ⟨0, rfl, rfl, Nat.zero_le _, rfl, rfl⟩
  case round =>
    obtain ⟨k, hu, rfl, hle, hnb, rfl⟩ := hrel
    by_cases hk : k < tx.size
    · have hki : (k : Int) < (tx.size : Int) := by omega
      obtain ⟨c, hc⟩ : ∃ c, tx[k]'hk = c := ⟨_, rfl⟩
      have HS := hide (noBrk_snoc tx k hk)
      have HBD := hide (noBrk_bad tx k hk)
      rw [hc] at HS HBD
      by_cases k1 : c = 10
      · have HE := hide (show wellR (.mk kd tx nn ks) = false by rw [wellR, HBD.out k1]; rfl)
        subst k1
        have HB := hide HR0.out.below
        go_wp2_with fail
        go_ret
        exact ⟨by rw [HE.out]; rfl, HB.out⟩
      · have m1 : ((c.toNat : Int) == 10) = false := byte_ne (x := 10) k1
        have HN := hide (show noBrk (tx.data.toList.take (k + 1)) = true by rw [HS.out, hnb.out]; simp [k1])
        go_wp2_with fail
        go_roundg (tx.size - (k + 1))
        case measure => rw [hu.out]; omega
        case rel => exact ⟨k + 1, rfl, rfl, hk, HN, rfl⟩
    · obtain rfl : k = tx.size := by omega
      have hki : ¬ (tx.size : Int) < (tx.size : Int) := by omega
      have hnt := hnb.out
      rw [List.take_of_length_le (by rw [size_len]; omega)] at hnt
      have HNT := hide hnt
      clear hnt hnb
      go_wp2_with fail
      go_loopg [4] ks.length (fun u v4 wr => ∃ k : Nat, Hid (u = ks.length - k) ∧ v4 = .int .i64 (k : Int) ∧ Hid (KdRel w #[.int .i64 kd, .string tx, .int .i64 nn, .slice a2 ks.length c2] ks k wr) ∧ Hid ((ks.take k).all wellR = true))
      case atStart => exact ⟨0, rfl, rfl, HR0, by rw [List.take_zero]; rfl⟩
      case round =>
        obtain ⟨k, hu, rfl, hr, hal⟩ := hrel
        have hle := hr.out.le
        have p0 := hr.out.box.cell 0
        have p1 := hr.out.box.cell 1
        have p2 := hr.out.box.cell 2
        have p3 := hr.out.box.cell 3
        have pl := hr.out.box.lt
        by_cases hlt : k < ks.length
        · have hlti : (k : Int) < (ks.length : Int) := by omega
          obtain ⟨bk, ob, x3, k3, rfl, hbl, e0, e1, e2, e3, hx⟩ := HK.out.get k hlt
          have hbelow := hr.out.below
          have e0' := (hbelow.cell (p := ⟨bk, ob + k * 4, none⟩) hbl).trans e0
          have e1' := (hbelow.cell (p := ⟨bk, ob + k * 4 + 1, none⟩) hbl).trans e1
          have e2' := (hbelow.cell (p := ⟨bk, ob + k * 4 + 2, none⟩) hbl).trans e2
          have e3' := (hbelow.cell (p := ⟨bk, ob + k * 4 + 3, none⟩) hbl).trans e3
          have hbl' := Nat.lt_of_lt_of_le hbl hbelow.size
          have HX := hide (HI.out ks[k] (List.getElem_mem hlt) _ _ (RD.below hbelow hx))
          have HBL := hide hbelow
          clear hx e0 e1 e2 e3 hbelow
          cases hw : wellR ks[k] with
          | true =>
            have HAL := hide (show (ks.take (k + 1)).all wellR = true by rw [List.take_succ_eq_append_getElem hlt, List.all_append, hal.out]; simp [hw])
            rw [hw] at HX
            go_wp2_with fail
            refine HX.out.mono ?_
            rintro e w2 ⟨rfl, h2⟩
            have HN := hide (hr.out.next h2 hlt)
            clear h2
            go_wp2_with fail
            go_roundg (ks.length - (k + 1))
            case measure => rw [hu.out]; omega
            case rel => exact ⟨k + 1, rfl, rfl, HN, HAL⟩
          | false =>
            have HE := hide (show wellR (.mk kd tx nn ks) = false by
              rw [wellR, wellRL_all]
              have : ks.all wellR = false := by rw [List.all_eq_false]; exact ⟨ks[k], List.getElem_mem hlt, by rw [hw]; simp⟩
              rw [this]; simp)
            rw [hw] at HX
            go_wp2_with fail
            refine HX.out.mono ?_
            rintro e w2 ⟨rfl, h2⟩
            have HN := hide (below_next HBL.out h2)
            clear h2
            go_wp2_with fail
            go_ret
            exact ⟨by rw [HE.out]; rfl, HN.out⟩
        · obtain rfl : k = ks.length := by omega
          have hal2 := hal.out
          rw [List.take_length, ← wellRL_all] at hal2
          have HE := hide (show wellR (.mk kd tx nn ks) = kindR kd tx nn ks.length by rw [wellR, HNT.out, hal2]; simp)
          have HB := hide hr.out.below
          clear hal2 hal
          have q1 : kd = 1 ∨ kd = 2 ∨ kd = 3 ∨ kd = 4 ∨ kd = 5 ∨ kd = 6 ∨ (kd ≠ 1 ∧ kd ≠ 2 ∧ kd ≠ 3 ∧ kd ≠ 4 ∧ kd ≠ 5 ∧ kd ≠ 6) := by omega
          rcases q1 with rfl | rfl | rfl | rfl | rfl | rfl | ⟨n1, n2, n3, n4, n5, n6⟩
          · have HQ := hide (show kindR 1 tx nn ks.length = (decide (nn = 0) && decide (ks.length = 0)) from rfl)
            by_cases h0 : nn = 0
            · by_cases h1 : ks.length = 0
              · have h1i : ((ks.length : Int) == 0) = true := by simp [h1]
                have HF := hide (show wellR (.mk 1 tx nn ks) = true by rw [HE.out, HQ.out]; simp [h0, h1])
                subst h0
                go_wp2_with fail
                go_ret
                exact ⟨by rw [HF.out]; rfl, HB.out⟩
              · have h1i : ((ks.length : Int) == 0) = false := by rw [beq_eq_false_iff_ne]; omega
                have HF := hide (show wellR (.mk 1 tx nn ks) = false by rw [HE.out, HQ.out]; simp [h0, h1])
                subst h0
                go_wp2_with fail
                go_ret
                exact ⟨by rw [HF.out]; rfl, HB.out⟩
            · have h0i : (nn == 0) = false := by rw [beq_eq_false_iff_ne]; exact h0
              have HF := hide (show wellR (.mk 1 tx nn ks) = false by rw [HE.out, HQ.out]; simp [h0])
              go_wp2_with fail
              go_ret
              exact ⟨by rw [HF.out]; rfl, HB.out⟩
          · have HQ := hide (show kindR 2 tx nn ks.length = (decide (nn = 0) && decide (ks.length = 0)) from rfl)
            by_cases h0 : nn = 0
            · by_cases h1 : ks.length = 0
              · have h1i : ((ks.length : Int) == 0) = true := by simp [h1]
                have HF := hide (show wellR (.mk 2 tx nn ks) = true by rw [HE.out, HQ.out]; simp [h0, h1])
                subst h0
                go_wp2_with fail
                go_ret
                exact ⟨by rw [HF.out]; rfl, HB.out⟩
              · have h1i : ((ks.length : Int) == 0) = false := by rw [beq_eq_false_iff_ne]; omega
                have HF := hide (show wellR (.mk 2 tx nn ks) = false by rw [HE.out, HQ.out]; simp [h0, h1])
                subst h0
                go_wp2_with fail
                go_ret
                exact ⟨by rw [HF.out]; rfl, HB.out⟩
            · have h0i : (nn == 0) = false := by rw [beq_eq_false_iff_ne]; exact h0
              have HF := hide (show wellR (.mk 2 tx nn ks) = false by rw [HE.out, HQ.out]; simp [h0])
              go_wp2_with fail
              go_ret
              exact ⟨by rw [HF.out]; rfl, HB.out⟩
          · have HQ := hide (show kindR 3 tx nn ks.length = (decide (nn = 0) && decide (ks.length = 0) && decide (tx.toList = [])) from rfl)
            by_cases h0 : nn = 0
            · by_cases h1 : ks.length = 0
              · have h1i : ((ks.length : Int) == 0) = true := by simp [h1]
                by_cases h2 : tx.toList = []
                · have HF := hide (show wellR (.mk 3 tx nn ks) = true by rw [HE.out, HQ.out]; simp [h0, h1, h2])
                  subst h0
                  go_wp2_with fail
                  go_ret
                  exact ⟨by rw [HF.out]; rfl, HB.out⟩
                · have h2i : tx.toList.isEmpty = false := by simpa using h2
                  have HF := hide (show wellR (.mk 3 tx nn ks) = false by rw [HE.out, HQ.out]; simp [h0, h1, h2])
                  subst h0
                  go_wp2_with fail
                  go_ret
                  exact ⟨by rw [HF.out]; rfl, HB.out⟩
              · have h1i : ((ks.length : Int) == 0) = false := by rw [beq_eq_false_iff_ne]; omega
                have HF := hide (show wellR (.mk 3 tx nn ks) = false by rw [HE.out, HQ.out]; simp [h0, h1])
                subst h0
                go_wp2_with fail
                go_ret
                exact ⟨by rw [HF.out]; rfl, HB.out⟩
            · have h0i : (nn == 0) = false := by rw [beq_eq_false_iff_ne]; exact h0
              have HF := hide (show wellR (.mk 3 tx nn ks) = false by rw [HE.out, HQ.out]; simp [h0])
              go_wp2_with fail
              go_ret
              exact ⟨by rw [HF.out]; rfl, HB.out⟩
          · have HQ := hide (show kindR 4 tx nn ks.length = (decide (tx.toList = []) && decide (0 ≤ nn) && decide (nn ≤ 1000)) from rfl)
            by_cases h2 : tx.toList = []
            · by_cases h0 : 0 ≤ nn
              · by_cases h1 : nn ≤ 1000
                · have HF := hide (show wellR (.mk 4 tx nn ks) = true by rw [HE.out, HQ.out]; simp [h0, h1, h2])
                  go_wp2_with fail
                  go_ret
                  exact ⟨by rw [HF.out]; rfl, HB.out⟩
                · have HF := hide (show wellR (.mk 4 tx nn ks) = false by rw [HE.out, HQ.out]; simp [h0, h1, h2])
                  go_wp2_with fail
                  go_ret
                  exact ⟨by rw [HF.out]; rfl, HB.out⟩
              · have HF := hide (show wellR (.mk 4 tx nn ks) = false by rw [HE.out, HQ.out]; simp [h0, h2])
                go_wp2_with fail
                go_ret
                exact ⟨by rw [HF.out]; rfl, HB.out⟩
            · have h2i : tx.toList.isEmpty = false := by simpa using h2
              have HF := hide (show wellR (.mk 4 tx nn ks) = false by rw [HE.out, HQ.out]; simp [h2])
              go_wp2_with fail
              go_ret
              exact ⟨by rw [HF.out]; rfl, HB.out⟩
          · have HQ := hide (show kindR 5 tx nn ks.length = (decide (tx.toList = []) && decide (nn = 0)) from rfl)
            by_cases h2 : tx.toList = []
            · by_cases h0 : nn = 0
              · have HF := hide (show wellR (.mk 5 tx nn ks) = true by rw [HE.out, HQ.out]; simp [h0, h2])
                subst h0
                go_wp2_with fail
                go_ret
                exact ⟨by rw [HF.out]; rfl, HB.out⟩
              · have h0i : (nn == 0) = false := by rw [beq_eq_false_iff_ne]; exact h0
                have HF := hide (show wellR (.mk 5 tx nn ks) = false by rw [HE.out, HQ.out]; simp [h0, h2])
                go_wp2_with fail
                go_ret
                exact ⟨by rw [HF.out]; rfl, HB.out⟩
            · have h2i : tx.toList.isEmpty = false := by simpa using h2
              have HF := hide (show wellR (.mk 5 tx nn ks) = false by rw [HE.out, HQ.out]; simp [h2])
              go_wp2_with fail
              go_ret
              exact ⟨by rw [HF.out]; rfl, HB.out⟩
          · have HQ := hide (show kindR 6 tx nn ks.length = (decide (tx.toList = []) && decide (nn = 0)) from rfl)
            by_cases h2 : tx.toList = []
            · by_cases h0 : nn = 0
              · have HF := hide (show wellR (.mk 6 tx nn ks) = true by rw [HE.out, HQ.out]; simp [h0, h2])
                subst h0
                go_wp2_with fail
                go_ret
                exact ⟨by rw [HF.out]; rfl, HB.out⟩
              · have h0i : (nn == 0) = false := by rw [beq_eq_false_iff_ne]; exact h0
                have HF := hide (show wellR (.mk 6 tx nn ks) = false by rw [HE.out, HQ.out]; simp [h0, h2])
                go_wp2_with fail
                go_ret
                exact ⟨by rw [HF.out]; rfl, HB.out⟩
            · have h2i : tx.toList.isEmpty = false := by simpa using h2
              have HF := hide (show wellR (.mk 6 tx nn ks) = false by rw [HE.out, HQ.out]; simp [h2])
              go_wp2_with fail
              go_ret
              exact ⟨by rw [HF.out]; rfl, HB.out⟩
          · have HF := hide (show wellR (.mk kd tx nn ks) = false by rw [HE.out]; unfold kindR; simp [n1, n2, n3, n4, n5, n6])
            have m1 : (kd == 1) = false := by rw [beq_eq_false_iff_ne]; exact n1
            have m2 : (kd == 2) = false := by rw [beq_eq_false_iff_ne]; exact n2
            have m3 : (kd == 3) = false := by rw [beq_eq_false_iff_ne]; exact n3
            have m4 : (kd == 4) = false := by rw [beq_eq_false_iff_ne]; exact n4
            have m5 : (kd == 5) = false := by rw [beq_eq_false_iff_ne]; exact n5
            have m6 : (kd == 6) = false := by rw [beq_eq_false_iff_ne]; exact n6
            go_wp2_with fail
            go_ret
            exact ⟨by rw [HF.out]; rfl, HB.out⟩

set_option maxHeartbeats 2000000 in
set_option maxRecDepth 100000 in
theorem RRight_any (d : Dc) (v : Value) (w : World) (hT : RD w d v) (hc : cnt d ≤ 10000) : Calls Try.prog 23 #[v] w fun e w' => e = .returned (.bool (rtB 200 d)) ∧ Below w.heap.size w w' := by
  obtain ⟨a2, c2, rfl, hkd, htx, hnn, hks⟩ := hT.open
  have hb0 := (Below.refl w.heap.size w).alloc (Nat.le_refl _) (.cells #[.int .i64 d.kind, .string d.text, .int .i64 d.num, .slice a2 d.kids.length c2] 24)
  have HB := hide hb0
  have HBX := hide (Blk.new w #[.int .i64 d.kind, .string d.text, .int .i64 d.num, .slice a2 d.kids.length c2] 24)
  have HC := hide (Count_any d hc _ _ (RD.below hb0 hT))
  have HT := hide hT
  have HW := hide (fun W (h : Below w.heap.size w W) => well_any d _ W (RD.below h hT))
  have HR := hide (rt_R d 200)
  have hdc := dep_cnt d
  obtain ⟨n, hn⟩ : ∃ n, cnt d = n := ⟨_, rfl⟩
  obtain ⟨p, hp⟩ : ∃ n, dep d = n := ⟨_, rfl⟩
  rw [hn] at HC hc hdc
  rw [hp] at HC HR hdc
  clear hT hks hb0 hn hp
  have hn2 : (n : Int) ≤ 20000 := by omega
  go_enter Try.func23, Try.ntmps23
  go_wp2_with fail
  refine HC.out.mono ?_
  rintro e w1 ⟨rfl, h1⟩
  replace HB := hide (below_next HB.out h1)
  replace HBX := hide (HBX.out.below h1)
  clear h1 HC
  have b0 := HBX.out.cell 0
  have b1 := HBX.out.cell 1
  have b2 := HBX.out.cell 2
  have b3 := HBX.out.cell 3
  have bl := HBX.out.lt
  by_cases h200 : p ≤ 200
  · have h2i : (p : Int) ≤ 200 := by omega
    have HRR := hide (show rtB 200 d = wellR d by rw [HR.out, decide_eq_true h200]; rfl)
    go_wp2_with fail
    refine (HW.out _ HB.out).mono ?_
    rintro e w2 ⟨rfl, h1⟩
    replace HB := hide (below_next HB.out h1)
    clear h1
    go_wp2_with fail
    go_ret
    exact ⟨by rw [HRR.out]; rfl, HB.out⟩
  · have h2i : ¬ (p : Int) ≤ 200 := by omega
    have HRR := hide (show rtB 200 d = false by rw [HR.out, decide_eq_false h200]; rfl)
    go_wp2_with fail
    go_ret
    exact ⟨by rw [HRR.out]; rfl, HB.out⟩

theorem four_cells (w : World) (a b c d : Value) (t : TypeId) : ∀ j u, [a, b, c, d][j]? = some u → (w.alloc (.cells #[a, b, c, d] t)).cell? ((⟨w.heap.size, 0, none⟩ : Addr).add j) = some u := by
  intro j u hj
  have h := Blk.cell (Blk.new w #[a, b, c, d] t) j
  rw [show (⟨w.heap.size, 0, none⟩ : Addr).add j = ⟨w.heap.size, j, none⟩ from by unfold Addr.add; split <;> simp_all, h, ← hj]
  simp

set_option maxHeartbeats 2000000 in
set_option maxRecDepth 100000 in
theorem RLeaves_any : ∀ (d : Dc), cnt d ≤ 1000000 → ∀ (v : Value) (w : World), RD w d v → Calls Try.prog 24 #[v] w (LvP (leafs d) w) := by
  refine Dc.induct fun kd tx nn ks ih => ?_
  intro hc v w hT
  obtain ⟨a2, c2, rfl, hkd, htx, hnn, hks⟩ := hT.open
  simp only [Dc.kind, Dc.text, Dc.num, Dc.kids] at hks htx hkd hnn ⊢
  obtain ⟨j0, hj, hy0, hy1, hy2⟩ := info_parts info24
  have hlen := hks.1
  have HK := hide hks
  have HI := hide ih
  rw [cnt] at hc
  have HC := hide hc
  clear hks ih hT hc
  by_cases hlf : kd = 1 ∨ kd = 2 ∨ kd = 3
  · have HL := hide (show leafs (.mk kd tx nn ks) = [.mk kd tx nn []] by rw [leafs, if_pos hlf])
    have HB1 := hide (show Below w.heap.size w (w.alloc (.cells #[.int .i64 kd, .string tx, .int .i64 nn, .slice a2 ks.length c2] 24)) from (Below.refl _ w).alloc (Nat.le_refl _) _)
    have HB2 := hide (show Below w.heap.size w ((w.alloc (.cells #[.int .i64 kd, .string tx, .int .i64 nn, .slice a2 ks.length c2] 24)).alloc (.cells #[.int .i64 kd, .string tx, .int .i64 nn, .slice none 0 0] 24)) from HB1.out.alloc (by simp) _)
    have hbase : w.heap.size ≤ ((w.alloc (.cells #[.int .i64 kd, .string tx, .int .i64 nn, .slice a2 ks.length c2] 24)).alloc (.cells #[.int .i64 kd, .string tx, .int .i64 nn, .slice none 0 0] 24)).heap.size := HB2.out.size
    have hfc := four_cells (w.alloc (.cells #[.int .i64 kd, .string tx, .int .i64 nn, .slice a2 ks.length c2] 24)) (.int .i64 kd) (.string tx) (.int .i64 nn) (.slice none 0 0) 24
    rw [World.size_alloc] at hfc
    go_enter Try.func24, Try.ntmps24
    rcases hlf with rfl | rfl | rfl
    all_goals
      go_wp2_with (at_builtin; refine wpList_append_own _ rfl _ _ 22 rfl w.heap.size 24 j0 _ 4 56 Try.underlying22 hj hy0 hy1 hy2 rfl (by decide) _ 0 [] rfl (World.ownsRow_nil _ _ _ _) ⟨w.heap.size + 1, 0, none⟩ 1 1 _ rfl rfl hfc (by simp [Value.oneCell']) (by unfold maxLen; omega) (by omega) hbase ?_; intro v' w2 hown' hgrow hnil)
      have HF := hide (show LvP (leafs _) w (.returned v') w2 from ⟨v', rfl, by rw [HL.out]; exact hown', HB2.out.grown hgrow HB2.out.size (fun k e => by cases e)⟩)
      clear hown' hgrow hnil
      go_wp2_with fail
      go_ret
      exact HF.out
  · have h1 : (kd == 1) = false := by simp; omega
    have h2 : (kd == 2) = false := by simp; omega
    have h3 : (kd == 3) = false := by simp; omega
    have HL := hide (show leafs (.mk kd tx nn ks) = leafsL ks by rw [leafs, if_neg hlf])
    clear hlf
    have hr0 := hide (show LvRel w #[.int .i64 kd, .string tx, .int .i64 nn, .slice a2 ks.length c2] ks 0 (.slice none 0 0) (w.alloc (.cells #[.int .i64 kd, .string tx, .int .i64 nn, .slice a2 ks.length c2] 24)) from
      ⟨(Below.refl _ w).alloc (Nat.le_refl _) _, Blk.new w _ _, by rw [List.take_zero]; exact World.ownsRow_nil _ _ _ _, Nat.zero_le _⟩)
    go_enter Try.func24, Try.ntmps24
    go_wp2_with fail
    go_loopg [3, 4] ks.length (fun u v3 v4 wr => ∃ k : Nat, Hid (u = ks.length - k) ∧ v4 = .int .i64 (k : Int) ∧ Hid (LvRel w #[.int .i64 kd, .string tx, .int .i64 nn, .slice a2 ks.length c2] ks k v3 wr))
    case atStart => exact ⟨0, rfl, rfl, hr0⟩
    case round =>
      obtain ⟨k, hu, rfl, hr⟩ := hrel
      have hle := hr.out.le
      have p3 := hr.out.box.cell 3
      have pl := hr.out.box.lt
      by_cases hlt : k < ks.length
      · have hlti : (k : Int) < (ks.length : Int) := by omega
        obtain ⟨bk, ob, x3, k3, rfl, hbl, e0, e1, e2, e3, hx⟩ := HK.out.get k hlt
        have hbelow := hr.out.below
        have e0' := (hbelow.cell (p := ⟨bk, ob + k * 4, none⟩) hbl).trans e0
        have e1' := (hbelow.cell (p := ⟨bk, ob + k * 4 + 1, none⟩) hbl).trans e1
        have e2' := (hbelow.cell (p := ⟨bk, ob + k * 4 + 2, none⟩) hbl).trans e2
        have e3' := (hbelow.cell (p := ⟨bk, ob + k * 4 + 3, none⟩) hbl).trans e3
        have hbl' := Nat.lt_of_lt_of_le hbl hbelow.size
        have hcm := cntL_mem (List.getElem_mem hlt)
        have HX := hide (HI.out ks[k] (List.getElem_mem hlt) (by have := HC.out; omega) _ _ (RD.below hbelow hx))
        have HB := hide hbelow
        have HO := hide hr.out.own
        have HBX := hide hr.out.box
        clear hx e0 e1 e2 e3 hbelow
        go_wp2_with fail
        refine HX.out.mono ?_
        rintro e w3 ⟨v3, rfl, hp⟩
        have HB3 := hide (below_next HB.out hp.out.2)
        have HO3 := hide (own_below HO.out hp.out.2)
        have HBX3 := hide (HBX.out.below hp.out.2)
        have h63 : (leafsL (ks.take k)).length + (leafs ks[k]).length ≤ 2000000 := by
          have h1 := leafsL_len (ks.take k)
          have h2 := cntL_le ks k
          have h3 := leafs_len ks[k]
          have := HC.out
          omega
        have hbase : w.heap.size + 1 ≤ w3.heap.size := by have := HBX3.out.lt; omega
        go_wp2_with (at_builtin; refine wpList_append_rows rfl _ _ 22 rfl (w.heap.size + 1) 24 j0 _ 4 56 Try.underlying22 hj hy0 hy1 hy2 rfl (by decide) _ _ _ rfl HO3.out _ _ _ _ rfl hp.out.1 (lfC_one _) (by unfold maxLen; omega) (by omega) hbase ?_; intro v' w4 hown' hgrow)
        have HN := hide (show LvRel w _ ks (k + 1) v' w4 from
          ⟨Below.grown1 HB3.out HO3.out (by omega) hgrow, Blk.grown1 HBX3.out HO3.out (by omega) hgrow, by rw [leafsL_snoc ks k hlt, List.length_append, lfC_append]; exact hown', hlt⟩)
        clear hown' hgrow
        go_wp2_with fail
        go_roundg (ks.length - (k + 1))
        case measure => rw [hu.out]; omega
        case rel => exact ⟨k + 1, rfl, by go_num, HN⟩
      · obtain rfl : k = ks.length := by omega
        have HE := hide (LvRel.fin hr.out HL.out)
        go_wp2_with fail
        go_ret
        exact HE.out
end Go.Proofs.Ytcmhlfnmjpmjhaa
