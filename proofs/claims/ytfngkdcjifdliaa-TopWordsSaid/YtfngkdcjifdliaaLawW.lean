/- The walk of the law TopWords. -/
import Derived.Test.YtfngkdcjifdliaaAlive
set_option linter.unusedVariables false
set_option linter.unusedSimpArgs false
set_option linter.unnecessarySimpa false
set_option linter.deprecated false
namespace Go.Proofs.Ytfngkdcjifdliaa
open Go.RowKit

theorem conv_rb {W : World} {a : Option Addr} {c : Nat} {bs : List UInt8} (h : RB W a bs) : (convert 25 9 (.slice a bs.length c)).run Try.prog W = .ok (.string ⟨bs.toArray⟩) W := by
  by_cases h0 : bs = []
  · subst h0
    exact run_convert_bytes_zero W 25 5 Try.underlying25 Try.underlying5 a c 9 Try.underlying9
  · obtain ⟨b, o, rfl, _, hr⟩ := h.get h0
    refine run_convert_bytes_back W 25 9 5 ⟨b, o, none⟩ c bs Try.underlying25 Try.underlying5 Try.underlying9 fun j hj => ?_
    rw [add_mk, hr j hj, List.getElem?_eq_getElem hj]
    rfl
theorem conv_own {W : World} {B : Nat} {a : Option Addr} {c : Nat} {bs : List UInt8} (h : W.ownsRow B 5 1 (.slice a bs.length c) bs.length (Lib.byteCells bs)) (hl : bs.length ≤ 140737488351232) : (convert 25 9 (.slice a bs.length c)).run Try.prog W = .ok (.string ⟨bs.toArray⟩) W := by
  obtain ⟨a', cap, e, hr⟩ := own_reads h hl
  injection e with e1 e2 e3
  subst e1 e3
  exact conv_rb (RBo.weak (fun _ _ => trivial) hr)
set_option maxHeartbeats 8000000 in
set_option maxRecDepth 100000 in
theorem law_words (s : St) (a : Option Addr) (c : Nat) (bs : List UInt8) (w : World) (hs : s.ok) (hb : RB w a bs) (hn : bs.length ≤ 140737488351232) :
    Calls Try.prog 3 #[.agg #[.int .u64 (s.w0 : Int), .int .u64 (s.w1 : Int), .int .u64 (s.w2 : Int), .int .u64 (s.w3 : Int)], .slice a bs.length c] w fun e w' => e = .returned (.bool true) ∧ Below w.heap.size w w' := by
  have HA := hide (fun W => alive_any W)
  have HB := hide hb
  have HS := hide hs
  have hb0 := (Below.refl w.heap.size w).alloc (Nat.le_refl _) (.cells #[.int .u64 (s.w0 : Int), .int .u64 (s.w1 : Int), .int .u64 (s.w2 : Int), .int .u64 (s.w3 : Int)] 24)
  have HB0 := hide hb0
  have hn0 := Blk.new w #[.int .u64 (s.w0 : Int), .int .u64 (s.w1 : Int), .int .u64 (s.w2 : Int), .int .u64 (s.w3 : Int)] 24
  have HN0 := hide hn0
  clear hb hs hb0 hn0
  by_cases hl : (10000 : Int) < (bs.length : Int)
  · go_enter Try.func3, Try.ntmps3
    go_wp2_with fail
    refine (HA.out _).mono ?_
    rintro e w1 ⟨rfl, h1⟩
    go_wp2_with fail
    go_ret
    exact ⟨rfl, below_next HB0.out h1⟩
  · have hsz := setT_size s
    have hq := qBytes_len bs
    have hql : (quoteL bs).length = (qBytes bs).length + 2 := by unfold quoteL; simp
    obtain ⟨t1, ht1⟩ : ∃ t : ByteArray, (⟨(setT (runsOf s)).toArray⟩ : ByteArray) = t := ⟨_, rfl⟩
    obtain ⟨t2, ht2⟩ : ∃ t : ByteArray, (⟨(quoteL bs).toArray⟩ : ByteArray) = t := ⟨_, rfl⟩
    obtain ⟨text, htx⟩ : ∃ text : ByteArray, t1 ++ t2 = text := ⟨_, rfl⟩
    have htl : text.data.toList = setT (runsOf s) ++ quoteL bs := by rw [← htx, ← ht1, ← ht2]; simp
    have z1 : t1.size ≤ 2400 := by rw [← ht1]; exact hsz
    have z2 : t2.size ≤ 50000 := by rw [← ht2]; show (quoteL bs).length ≤ 50000; omega
    have z12 : t1.size + t2.size ≤ 60000 := by omega
    have hts : text.size ≤ 65536 := by rw [← size_len text, htl, List.length_append]; omega
    have HSC := hide (fun W => scan_ok text [.set (items (runsOf s)), .txt bs] 0 W rfl (lex_law text s bs htl) hts)
    have HP := hide (fun W => (show Calls Try.prog 6 #[.agg #[.int .u64 (s.w0 : Int), .int .u64 (s.w1 : Int), .int .u64 (s.w2 : Int), .int .u64 (s.w3 : Int)]] W _ from Print_any s HS.out W))
    have HQ := hide (fun W h => Quote_any a c bs W h (by omega))
    rw [ht1] at HP
    rw [ht2] at HQ
    have HTX := hide htx
    clear hsz hq hql htx htl ht1 ht2
    go_enter Try.func3, Try.ntmps3
    go_wp2_with fail
    refine (HP.out _).mono ?_
    rintro e w1 ⟨rfl, h1⟩
    go_wp2_with fail
    refine (HQ.out _ ((HB.out.below HB0.out).below h1)).mono ?_
    rintro e w2 ⟨rfl, h2⟩
    go_wp2_with fail
    rw [HTX.out]
    refine (HSC.out _).mono ?_
    rintro e w3 ⟨v, ws, last, rfl, hp⟩
    obtain ⟨ho, hk, hm, h3⟩ := hp
    replace HB0 := hide (below_next (below_next (below_next HB0.out h1) h2) h3)
    replace HN0 := hide (((HN0.out.below h1).below h2).below h3)
    cases hm with
    | cons g0 hm => cases hm with
      | cons g1 hm => cases hm with
        | nil =>
          rename_i x0 x1
          obtain ⟨g, cap, rfl, hB, hg, hcap, hcell⟩ := own_at ho (by simp)
          have hx := g0.2
          rw [set_back s HS.out] at hx
          have hy := g1.2
          have hyl := own_shape hy
          have c0 : w3.cell? ⟨g, 0, none⟩ = some (.int .i64 5) := by rw [← g0.1]; exact hcell 0 _ rfl
          have c3 : w3.cell? ⟨g, 3, none⟩ = some (.int .u64 (s.w0 : Int)) := by rw [← hx]; exact hcell 3 _ rfl
          have c4 : w3.cell? ⟨g, 4, none⟩ = some (.int .u64 (s.w1 : Int)) := by rw [← hx]; exact hcell 4 _ rfl
          have c5 : w3.cell? ⟨g, 5, none⟩ = some (.int .u64 (s.w2 : Int)) := by rw [← hx]; exact hcell 5 _ rfl
          have c6 : w3.cell? ⟨g, 6, none⟩ = some (.int .u64 (s.w3 : Int)) := by rw [← hx]; exact hcell 6 _ rfl
          have c11 : w3.cell? ⟨g, 11, none⟩ = some (.int .i64 4) := by rw [← g1.1]; exact hcell 11 _ rfl
          have c13 : w3.cell? ⟨g, 13, none⟩ = some (.slice x1.ba x1.bn x1.bc) := hcell 13 _ rfl
          have c22 : w3.cell? ⟨g, 22, none⟩ = some (.int .i64 7) := by rw [← hk]; exact hcell 22 _ rfl
          obtain ⟨a1, cap1, e1, _⟩ := hyl
          injection e1 with e1 e2 e3
          rw [e1, e2, e3] at c13 hy
          have HY := hide hy
          have HC := hide (And.intro c0 (And.intro c3 (And.intro c4 (And.intro c5 (And.intro c6 (And.intro c11 (And.intro c13 c22)))))))
          have HG := hide hg
          have heql := fun W => eql_set W s HS.out
          clear ho hk g0 g1 hB hcap hcell hx hy c0 c3 c4 c5 c6 c11 c13 c22 e1 e2 e3 h1 h2 h3 hg
          have HALL := hide (fun W (h : Below w3.heap.size w3 W) => (show Hid (Below w3.heap.size w3 W) ∧ W.cell? ⟨g, 0, none⟩ = some (.int .i64 5) ∧ W.cell? ⟨g, 3, none⟩ = some (.int .u64 (s.w0 : Int)) ∧ W.cell? ⟨g, 4, none⟩ = some (.int .u64 (s.w1 : Int)) ∧ W.cell? ⟨g, 5, none⟩ = some (.int .u64 (s.w2 : Int)) ∧ W.cell? ⟨g, 6, none⟩ = some (.int .u64 (s.w3 : Int)) ∧ W.cell? ⟨g, 11, none⟩ = some (.int .i64 4) ∧ W.cell? ⟨g, 13, none⟩ = some (.slice a1 bs.length cap1) ∧ W.cell? ⟨g, 22, none⟩ = some (.int .i64 7) ∧ W.cell? ⟨w.heap.size, 0, none⟩ = some (.int .u64 (s.w0 : Int)) ∧ W.cell? ⟨w.heap.size, 1, none⟩ = some (.int .u64 (s.w1 : Int)) ∧ W.cell? ⟨w.heap.size, 2, none⟩ = some (.int .u64 (s.w2 : Int)) ∧ W.cell? ⟨w.heap.size, 3, none⟩ = some (.int .u64 (s.w3 : Int)) ∧ (convert 25 9 (.slice a1 bs.length cap1)).run Try.prog W = .ok (.string ⟨bs.toArray⟩) W ∧ (convert 25 9 (.slice a bs.length c)).run Try.prog W = .ok (.string ⟨bs.toArray⟩) W from ⟨hide h, (h.cell (p := ⟨g, 0, none⟩) HG.out).trans HC.out.1, (h.cell (p := ⟨g, 3, none⟩) HG.out).trans HC.out.2.1, (h.cell (p := ⟨g, 4, none⟩) HG.out).trans HC.out.2.2.1, (h.cell (p := ⟨g, 5, none⟩) HG.out).trans HC.out.2.2.2.1, (h.cell (p := ⟨g, 6, none⟩) HG.out).trans HC.out.2.2.2.2.1, (h.cell (p := ⟨g, 11, none⟩) HG.out).trans HC.out.2.2.2.2.2.1, (h.cell (p := ⟨g, 13, none⟩) HG.out).trans HC.out.2.2.2.2.2.2.1, (h.cell (p := ⟨g, 22, none⟩) HG.out).trans HC.out.2.2.2.2.2.2.2, (HN0.out.below h).cell 0, (HN0.out.below h).cell 1, (HN0.out.below h).cell 2, (HN0.out.below h).cell 3, conv_own (own_below HY.out h) (by omega), conv_rb ((HB.out.below HB0.out).below h)⟩))
          go_upto_region 6 with fail
          have HA0 := hide (NB.alloc (Below.refl w3.heap.size w3) (.cells #[.int .i64 0, .int .i64 0] 30))
          clear HC HY HG HN0 HP HQ HSC HTX
          go_region_held3 (fun W => Hid (Below w3.heap.size w3 W) ∧ W.cell? ⟨g, 0, none⟩ = some (.int .i64 5) ∧ W.cell? ⟨g, 3, none⟩ = some (.int .u64 (s.w0 : Int)) ∧ W.cell? ⟨g, 4, none⟩ = some (.int .u64 (s.w1 : Int)) ∧ W.cell? ⟨g, 5, none⟩ = some (.int .u64 (s.w2 : Int)) ∧ W.cell? ⟨g, 6, none⟩ = some (.int .u64 (s.w3 : Int)) ∧ W.cell? ⟨g, 11, none⟩ = some (.int .i64 4) ∧ W.cell? ⟨g, 13, none⟩ = some (.slice a1 bs.length cap1) ∧ W.cell? ⟨g, 22, none⟩ = some (.int .i64 7) ∧ W.cell? ⟨w.heap.size, 0, none⟩ = some (.int .u64 (s.w0 : Int)) ∧ W.cell? ⟨w.heap.size, 1, none⟩ = some (.int .u64 (s.w1 : Int)) ∧ W.cell? ⟨w.heap.size, 2, none⟩ = some (.int .u64 (s.w2 : Int)) ∧ W.cell? ⟨w.heap.size, 3, none⟩ = some (.int .u64 (s.w3 : Int)) ∧ (convert 25 9 (.slice a1 bs.length cap1)).run Try.prog W = .ok (.string ⟨bs.toArray⟩) W ∧ (convert 25 9 (.slice a bs.length c)).run Try.prog W = .ok (.string ⟨bs.toArray⟩) W)
            ((refine HALL.out _ ?_; repeat' (with_reducible (first | exact (Hid.out (And.left (by assumption))) | exact HA0.out | exact Below.refl _ _ | refine Below.drew ?_ | refine NB.alloc ?_ _ | refine NB.below ?_ (by assumption)))))
            (first | (go_at_call 4; refine (HA.out _).mono ?_; rintro e w5 ⟨rfl, hb5⟩))
          all_goals
            go_wp2_with fail
            go_ret
            refine ⟨rfl, below_next HB0.out ?_⟩
            repeat' (with_reducible (first | exact (Hid.out (And.left (by assumption))) | exact HA0.out | exact Below.refl _ _ | refine Below.drew ?_ | refine NB.alloc ?_ _ | refine NB.below ?_ (by assumption)))
end Go.Proofs.Ytfngkdcjifdliaa
