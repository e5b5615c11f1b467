/- The walk of CheckWhole. The order of things does not count. Rows that are turned. Copies in memory. Things of one own: items. -/
import Derived.Test.YtalicfpcmcbdbaaZOkD
import Derived.Test.YtalicfpcmcbdbaaZInL
import Derived.Test.YtalicfpcmcbdbaaZLexF
import Derived.Test.YtalicfpcmcbdbaaZParts
import Derived.Deep.RegionHeld3
import Derived.StillTailTactics
import Derived.BigQuiet
import Derived.Test.YtalicfpcmcbdbaaZTurn
import Derived.Test.YtalicfpcmcbdbaaZBare
import Derived.Test.YtalicfpcmcbdbaaZRItems
set_option linter.unusedVariables false
set_option linter.unusedSimpArgs false
set_option linter.unnecessarySimpa false
set_option linter.deprecated false
namespace Go.Proofs.Ytalicfpcmcbdbaa
open Go.RowKit

theorem lexL_len (d : Df) : (lexL d).length ≤ d.prods.length := by
  unfold lexL
  exact Nat.le_trans (List.length_filter_le _ _) (sortsL_len d.prods)
theorem lexL_mem {d : Df} {s : ByteArray} : s ∈ lexL d ↔ s ∈ sortsL d.prods ∧ isLex d.prods s true = true := by
  unfold lexL; rw [List.mem_filter]
theorem isLex_iff {l : List Pd} {s : ByteArray} {b : Bool} : isLex l s b = true ↔ ∃ p ∈ l, p.sort = s ∧ p.lex = b := by
  unfold isLex
  rw [List.any_eq_true]
  simp only [Bool.and_eq_true, decide_eq_true_eq, beq_iff_eq]
theorem lexOf_ne {l : List Pd} {s : ByteArray} (h : lexOf l s ≠ 0) : s ∈ sortsL l := by
  rcases lexOf_cases l s with ⟨h1, _⟩ | ⟨h1, _⟩
  · exact absurd h1 h
  · exact h1
theorem OkD.name {d : Df} (h : OkD d) {p : Pd} (hp : p ∈ d.prods) {s : Sy} (hs : s ∈ p.syms) (he : emp s.name = false) : inB s.name (sortsL d.prods) = true := by
  refine (inB_iff _ _).2 (lexOf_ne (h.undef s.name ?_))
  unfold usedL
  refine List.mem_append_left _ (List.mem_append_left _ (List.mem_flatMap.2 ⟨p, hp, ?_⟩))
  unfold namesL namesOf
  exact List.mem_map.2 ⟨s, List.mem_filter.2 ⟨hs, by rw [he]; rfl⟩, rfl⟩
theorem OkD.lexName {d : Df} (h : OkD d) {p : Pd} (hp : p ∈ d.prods) {s : Sy} (hs : s ∈ p.syms) (he : emp s.name = false) (hl : p.lex = true) : inB s.name (lexL d) = true := by
  refine (inB_iff _ _).2 (lexL_mem.2 ⟨(inB_iff _ _).1 (h.name hp hs he), ?_⟩)
  have hk := h.kind p hp
  unfold kindB at hk
  rw [List.any_eq_false] at hk
  have := hk s hs
  unfold kindS at this
  rw [if_pos hl] at this
  simp [he] at this
  exact this.2
/-- How many of these symbols may not be left out. -/
def mustN (l : List Sy) : Nat := (l.filter (fun s => !leftB s)).length
theorem mustN_snoc (l : List Sy) (s : Sy) : mustN (l ++ [s]) = mustN l + (if leftB s = true then 0 else 1) := by
  unfold mustN
  rw [List.filter_append, List.length_append]
  cases h : leftB s <;> simp [h]
theorem OkD.must {d : Df} (h : OkD d) {p : Pd} (hp : p ∈ d.prods) : mustN p.syms ≠ 0 := by
  intro e
  have hn := h.null p hp
  unfold nullB at hn
  rw [Bool.or_eq_false_iff] at hn
  have h2 : p.syms.all leftB = true := by
    rw [List.all_eq_true]
    intro s hs
    cases hl : leftB s
    · unfold mustN at e
      have := List.length_eq_zero_iff.1 e
      have hm : s ∈ p.syms.filter (fun s => !leftB s) := List.mem_filter.2 ⟨hs, by rw [hl]; rfl⟩
      rw [this] at hm
      cases hm
    · rfl
  rw [h2] at hn
  exact absurd hn.2 (by decide)
theorem OkD.lexEq {d : Df} (h : OkD d) {p : Pd} (hp : p ∈ d.prods) : inB p.sort (lexL d) = p.lex := by
  have hs : p.sort ∈ sortsL d.prods := (mem_sortsL _ _).2 ⟨p, hp, rfl⟩
  have hm := h.mixed _ hs
  rw [Bool.eq_iff_iff, inB_iff, lexL_mem]
  constructor
  · rintro ⟨_, h1⟩
    cases hl : p.lex
    · exfalso
      apply hm
      have h2 : isLex d.prods p.sort false = true := isLex_iff.2 ⟨p, hp, rfl, hl⟩
      unfold lexOf
      rw [h1, h2]; rfl
    · rfl
  · intro hl
    exact ⟨hs, isLex_iff.2 ⟨p, hp, rfl, hl⟩⟩
theorem OkD.starts {d : Df} (h : OkD d) : inB d.start (sortsL d.prods) = true ∧ inB d.start (lexL d) = false := by
  have h2 := h.start
  refine ⟨(inB_iff _ _).2 (lexOf_ne (by rw [h2]; decide)), ?_⟩
  cases hi : inB d.start (lexL d)
  · rfl
  · exfalso
    have h3 := (lexL_mem.1 ((inB_iff _ _).1 hi)).2
    unfold lexOf at h2
    rw [h3] at h2
    cases hj : isLex d.prods d.start false <;> rw [hj] at h2 <;> exact absurd h2 (by decide)
theorem OkD.lay {d : Df} (h : OkD d) (he : emp d.layout = false) : inB d.layout (lexL d) = true := by
  have h1 : lexOf d.prods d.layout = 1 := h.layout.resolve_left (by rw [he]; decide)
  refine (inB_iff _ _).2 (lexL_mem.2 ⟨lexOf_ne (by rw [h1]; decide), ?_⟩)
  unfold lexOf at h1
  cases hi : isLex d.prods d.layout true
  · rw [hi] at h1
    cases hj : isLex d.prods d.layout false <;> rw [hj] at h1 <;> exact absurd h1 (by decide)
  · rfl
set_option maxHeartbeats 1600000 in
set_option maxRecDepth 100000 in
theorem lawWhole_any (d : Df) (a2 : Option Addr) (c2 : Nat) (a3 : Option Addr) (c3 : Nat) (a4 : Option Addr) (c4 : Nat) (a5 : Option Addr) (c5 : Nat) (a6 : Option Addr) (c6 : Nat) (w : World) (hd : RD d ⟨a2, c2, a3, c3, a4, c4, a5, c5, a6, c6⟩ w) : Calls Try.prog 9 #[.agg #[.string d.start, .string d.layout, .slice a2 d.prods.length c2, .slice a3 d.chains.length c3, .slice a4 d.follows.length c4, .slice a5 d.rejects.length c5, .slice a6 d.boxes.length c6]] w fun e w' => e = .returned (.bool true) ∧ Below w.heap.size w w' := by
  have HB0 := hide ((Below.refl w.heap.size w).alloc (Nat.le_refl _) (.cells #[.string d.start, .string d.layout, .slice a2 d.prods.length c2, .slice a3 d.chains.length c3, .slice a4 d.follows.length c4, .slice a5 d.rejects.length c5, .slice a6 d.boxes.length c6] 28))
  have HX0 := hide (Blk.new w #[.string d.start, .string d.layout, .slice a2 d.prods.length c2, .slice a3 d.chains.length c3, .slice a4 d.follows.length c4, .slice a5 d.rejects.length c5, .slice a6 d.boxes.length c6] 28)
  have HD := hide (hd.below HB0.out)
  have hl2 := hd.p.1
  clear hd
  go_enter Try.func9, Try.ntmps9
  go_upto_region 1 with fail
  obtain ⟨kx, hkx⟩ : ∃ kx, w.heap.size = kx := ⟨_, rfl⟩
  obtain ⟨w0, h1⟩ : ∃ w1, w.alloc (.cells #[.string d.start, .string d.layout, .slice a2 d.prods.length c2, .slice a3 d.chains.length c3, .slice a4 d.follows.length c4, .slice a5 d.rejects.length c5, .slice a6 d.boxes.length c6] 28) = w1 := ⟨_, rfl⟩
  rw [h1] at HD HB0 HX0 ⊢
  rw [hkx] at HX0 ⊢
  clear h1 hkx
  have x0 := HX0.out.cell 0
  have x1 := HX0.out.cell 1
  have x2 := HX0.out.cell 2
  have x3 := HX0.out.cell 3
  have x4 := HX0.out.cell 4
  have x5 := HX0.out.cell 5
  have x6 := HX0.out.cell 6
  have xl := HX0.out.lt
  have HHV := hide (heavy_any d a2 c2 a3 c3 a4 c4 a5 c5 a6 c6 w0 HD.out)
  go_wp2_with fail
  refine HHV.out.mono ?_
  rintro e w1 ⟨⟨hv, rfl, hsm⟩, hb1⟩
  have HB1 := hide (below_next HB0.out hb1)
  have HX1 := hide (HX0.out.below hb1)
  have HD1 := hide (HD.out.below hb1)
  clear HX0 HD HHV HB0 hb1 x0 x1 x2 x3 x4 x5 x6 xl
  clear w0
  cases hv with
  | true =>
    have HC := hide (alive_any w1)
    clear hsm
    go_wp2_with fail
    refine HC.out.mono ?_
    rintro e w2 ⟨rfl, hb2⟩
    have HB2 := hide (below_next HB1.out hb2)
    clear hb2
    go_wp2_with fail
    go_ret
    exact ⟨rfl, HB2.out⟩
  | false =>
    have HSM := hide (tot_small (hsm rfl))
    clear hsm
    have HCK1 := hide (Check_any d a2 c2 a3 c3 a4 c4 a5 c5 a6 c6 w1 HD1.out HSM.out)
    obtain ⟨z1, n1, hz1⟩ : ∃ z1 n1, checkL d = (z1, n1) := ⟨_, _, rfl⟩
    have HZ1 := hide (show z1 = 0 ↔ OkD d by rw [← check_ok, hz1])
    rw [hz1] at HCK1
    clear hz1
    have x0 := HX1.out.cell 0
    have x1 := HX1.out.cell 1
    have x2 := HX1.out.cell 2
    have x3 := HX1.out.cell 3
    have x4 := HX1.out.cell 4
    have x5 := HX1.out.cell 5
    have x6 := HX1.out.cell 6
    have xl := HX1.out.lt
    go_wp2_with fail
    refine HCK1.out.mono ?_
    rintro e w2 ⟨rfl, hb2⟩
    have HX2 := hide (HX1.out.below hb2)
    have HD2 := hide (HD1.out.below hb2)
    have HB2 := hide (below_next HB1.out hb2)
    clear hb2 x0 x1 x2 x3 x4 x5 x6 xl HX1 HD1 HCK1 HB1
    by_cases hz : z1 = 0
    case neg =>
      have hz1 : (z1 == 0) = false := by simpa using hz
      have hz1n : (!z1 == 0) = true := by rw [hz1]; rfl
      have HAL := hide (alive_any w2)
      go_wp2_with fail
      refine HAL.out.mono ?_
      rintro e w7 ⟨rfl, hb7⟩
      go_wp2_with fail
      go_ret
      exact ⟨rfl, below_next HB2.out hb7⟩
    have HOK := hide (HZ1.out.1 hz)
    subst hz
    clear HZ1 w1
    go_upto_region 6 with fail
    have HS := hide (fun (W : World) (h : Below w2.heap.size w2 W) => (show (Hid (Below w2.heap.size w2 W) ∧ kx < W.heap.size ∧ W.cell? ⟨kx, 0, none⟩ = some (.string d.start) ∧ W.cell? ⟨kx, 1, none⟩ = some (.string d.layout) ∧ W.cell? ⟨kx, 2, none⟩ = some (.slice a2 d.prods.length c2) ∧ W.cell? ⟨kx, 3, none⟩ = some (.slice a3 d.chains.length c3) ∧ W.cell? ⟨kx, 4, none⟩ = some (.slice a4 d.follows.length c4) ∧ W.cell? ⟨kx, 5, none⟩ = some (.slice a5 d.rejects.length c5) ∧ W.cell? ⟨kx, 6, none⟩ = some (.slice a6 d.boxes.length c6)) from
      have q := HX2.out.below h
      ⟨hide h, q.lt, q.cell 0, q.cell 1, q.cell 2, q.cell 3, q.cell 4, q.cell 5, q.cell 6⟩))
    have HSO := hide (fun (W : World) (h : Hid (Below w2.heap.size w2 W)) => (show Calls Try.prog 22 #[.agg #[.string d.start, .string d.layout, .slice a2 d.prods.length c2, .slice a3 d.chains.length c3, .slice a4 d.follows.length c4, .slice a5 d.rejects.length c5, .slice a6 d.boxes.length c6]] W fun e W' => ∃ a c, e = .returned (.slice a (sortsL d.prods).length c) ∧ Hid (Row StrAt 1 (sortsL d.prods) a W' ∧ Below W.heap.size W W') ∧ (fun W => (Hid (Below w2.heap.size w2 W) ∧ kx < W.heap.size ∧ W.cell? ⟨kx, 0, none⟩ = some (.string d.start) ∧ W.cell? ⟨kx, 1, none⟩ = some (.string d.layout) ∧ W.cell? ⟨kx, 2, none⟩ = some (.slice a2 d.prods.length c2) ∧ W.cell? ⟨kx, 3, none⟩ = some (.slice a3 d.chains.length c3) ∧ W.cell? ⟨kx, 4, none⟩ = some (.slice a4 d.follows.length c4) ∧ W.cell? ⟨kx, 5, none⟩ = some (.slice a5 d.rejects.length c5) ∧ W.cell? ⟨kx, 6, none⟩ = some (.slice a6 d.boxes.length c6))) W' from (sorts_any d a2 c2 a3 c3 a4 c4 a5 c5 a6 c6 W (HD2.out.below h.out) HSM.out.pl5).mono (fun e W' hh => by
      obtain ⟨v, rfl, ho, hb⟩ := hh
      obtain ⟨a, c, rfl, hr⟩ := ho.row (by have := sortsL_len d.prods; omega)
      exact ⟨a, c, rfl, hide ⟨hr, hb⟩, HS.out W' (below_next h.out hb)⟩)))
    have HLX := hide (fun (W : World) (h : Hid (Below w2.heap.size w2 W)) => (show Calls Try.prog 25 #[.agg #[.string d.start, .string d.layout, .slice a2 d.prods.length c2, .slice a3 d.chains.length c3, .slice a4 d.follows.length c4, .slice a5 d.rejects.length c5, .slice a6 d.boxes.length c6]] W fun e W' => ∃ a c, e = .returned (.slice a (lexL d).length c) ∧ Hid (Row StrAt 1 (lexL d) a W' ∧ Below W.heap.size W W') ∧ (fun W => (Hid (Below w2.heap.size w2 W) ∧ kx < W.heap.size ∧ W.cell? ⟨kx, 0, none⟩ = some (.string d.start) ∧ W.cell? ⟨kx, 1, none⟩ = some (.string d.layout) ∧ W.cell? ⟨kx, 2, none⟩ = some (.slice a2 d.prods.length c2) ∧ W.cell? ⟨kx, 3, none⟩ = some (.slice a3 d.chains.length c3) ∧ W.cell? ⟨kx, 4, none⟩ = some (.slice a4 d.follows.length c4) ∧ W.cell? ⟨kx, 5, none⟩ = some (.slice a5 d.rejects.length c5) ∧ W.cell? ⟨kx, 6, none⟩ = some (.slice a6 d.boxes.length c6))) W' from (Lexical_any d a2 c2 a3 c3 a4 c4 a5 c5 a6 c6 W (HD2.out.below h.out) HSM.out.pl5).mono (fun e W' hh => by
      obtain ⟨v, rfl, ho, hb⟩ := hh
      obtain ⟨a, c, rfl, hr⟩ := ho.row (by have := lexL_len d; have := HSM.out.pl; omega)
      exact ⟨a, c, rfl, hide ⟨hr, hb⟩, HS.out W' (below_next h.out hb)⟩)))
    have hs0 := HS.out _ (Below.drew (Below.refl w2.heap.size w2))
    go_region_held3 (fun W => (Hid (Below w2.heap.size w2 W) ∧ kx < W.heap.size ∧ W.cell? ⟨kx, 0, none⟩ = some (.string d.start) ∧ W.cell? ⟨kx, 1, none⟩ = some (.string d.layout) ∧ W.cell? ⟨kx, 2, none⟩ = some (.slice a2 d.prods.length c2) ∧ W.cell? ⟨kx, 3, none⟩ = some (.slice a3 d.chains.length c3) ∧ W.cell? ⟨kx, 4, none⟩ = some (.slice a4 d.follows.length c4) ∧ W.cell? ⟨kx, 5, none⟩ = some (.slice a5 d.rejects.length c5) ∧ W.cell? ⟨kx, 6, none⟩ = some (.slice a6 d.boxes.length c6))) (first | exact hs0 | assumption)
      (first
        | (go_at_call 22; refine (HSO.out _ (And.left (by assumption))).mono ?_; rintro e w3 ⟨a7, c7, rfl, hr3, hs3⟩)
        | (go_at_call 25; refine (HLX.out _ (And.left (by assumption))).mono ?_; rintro e w4 ⟨a8, c8, rfl, hr4, hs4⟩))
    have HR7 := hide (hr3.out.1.below StrAt.stable hr4.out.2)
    have HR8 := hide hr4.out.1
    have HS4 := hide hs4
    have hl7 := hr3.out.1.1
    have hl8 := hr4.out.1.1
    clear hs0 hr3 hr4 hs3 hs4
    go_wp2_with fail
    go_loopg [7] d.prods.length (fun u v7 wr => ∃ k : Nat, Hid (u = d.prods.length - k) ∧ v7 = .int .i64 (k : Int) ∧ Hid (k ≤ d.prods.length ∧ Below w4.heap.size w4 wr))
    case atStart => exact ⟨0, hide rfl, rfl, hide ⟨Nat.zero_le _, Below.refl _ _⟩⟩
    case round =>
      obtain ⟨k, hu, rfl, hh⟩ := hrel
      have hkl := hh.out.1
      obtain ⟨z1, zl, q0, q1, q2, q3, q4, q5, q6⟩ := HS.out wr (below_next HS4.out.1.out hh.out.2)
      by_cases hlt : k < d.prods.length
      · have hlti : (k : Int) < (d.prods.length : Int) := by omega
        obtain ⟨b, o, rfl, hb, hat⟩ := (HD2.out.below z1.out).p.get hlt
        have hx := hat k hlt
        have HPM := hide (List.getElem_mem hlt)
        generalize d.prods[k] = p at hx HPM
        clear hat
        obtain ⟨ap, cp, ⟨e0, e1, e2, e3, e4⟩, hrow⟩ := hx.cells
        have HROW := hide hrow
        have hsl := hrow.1
        have HBW := hide hh.out.2
        clear hx hrow hh
        go_upto_region 11 with fail
        obtain ⟨w6, h6⟩ : ∃ w6, wr.alloc (.cells #[.bool p.lex, .string p.sort, .string p.cons, .bool p.bracket, .slice ap p.syms.length cp] 38) = w6 := ⟨_, rfl⟩
        obtain ⟨ky, hky⟩ : ∃ ky, wr.heap.size = ky := ⟨_, rfl⟩
        have HB46 := hide (show Below w4.heap.size w4 w6 by rw [← h6]; exact HBW.out.alloc HBW.out.size _)
        have HBr6 := hide (show Below wr.heap.size wr w6 by rw [← h6]; exact NB.alloc (Below.refl _ _) _)
        have HY6 := hide (show Blk w6 ky #[.bool p.lex, .string p.sort, .string p.cons, .bool p.bracket, .slice ap p.syms.length cp] 38 by rw [← h6, ← hky]; exact Blk.new wr _ _)
        rw [h6, hky]
        clear h6 hky e0 e1 e2 e3 e4 q0 q1 q2 q3 q4 q5 q6 zl z1 hb
        have y4 := HY6.out.cell 4
        have yl := HY6.out.lt
        go_wp2_with fail
        clear y4 yl
        go_loopg [9, 10] p.syms.length (fun u v9 v10 wq => ∃ j : Nat, Hid (u = p.syms.length - j) ∧ v10 = .int .i64 (j : Int) ∧ v9 = .int .i64 (mustN (p.syms.take j) : Int) ∧ Hid (j ≤ p.syms.length ∧ Below w6.heap.size w6 wq))
        case atStart => exact ⟨0, hide rfl, rfl, rfl, hide ⟨Nat.zero_le _, Below.refl _ _⟩⟩
        case round =>
          obtain ⟨j, hv, rfl, rfl, hq⟩ := hrel
          have hjl := hq.out.1
          have y0 := (HY6.out.below hq.out.2).cell 0
          have y1 := (HY6.out.below hq.out.2).cell 1
          have y4 := (HY6.out.below hq.out.2).cell 4
          have yl := (HY6.out.below hq.out.2).lt
          by_cases hltj : j < p.syms.length
          · have hltji : (j : Int) < (p.syms.length : Int) := by omega
            obtain ⟨b2, o2, rfl, hb2, hat2⟩ := (HROW.out.below SyAt.stable (below_next HBr6.out hq.out.2)).get hltj
            have hx := hat2 j hltj
            have HSN := hide (show mustN (p.syms.take (j + 1)) = mustN (p.syms.take j) + (if leftB p.syms[j] = true then 0 else 1) by rw [take_snoc p.syms j hltj, mustN_snoc])
            have HSM2 := hide (List.getElem_mem hltj)
            have hmb : mustN (p.syms.take j) ≤ j := by
              have h1 := List.length_filter_le (fun s => !leftB s) (p.syms.take j)
              unfold mustN
              rw [List.length_take] at h1
              omega
            generalize p.syms[j] = y at hx HSN HSM2
            clear hat2
            obtain ⟨kd, t, st, nm, sp⟩ := y
            obtain ⟨f0, f1, f2, f3, f4, f5, f6, f7⟩ := hx.cells
            have HNM := hide (fun (he : emp nm = false) => HOK.out.name HPM.out HSM2.out he)
            have HNL := hide (fun (he : emp nm = false) (hl : p.lex = true) => HOK.out.lexName HPM.out HSM2.out he hl)
            clear hx
            go_upto_region 16 with fail
            obtain ⟨w8, h8⟩ : ∃ w8, wr.alloc (.cells #[.int .i64 kd, .string t, .int .u64 (st.w0 : Int), .int .u64 (st.w1 : Int), .int .u64 (st.w2 : Int), .int .u64 (st.w3 : Int), .string nm, .string sp] 61) = w8 := ⟨_, rfl⟩
            obtain ⟨ks, hks⟩ : ∃ ks, wr.heap.size = ks := ⟨_, rfl⟩
            have HBQ := hide (show Below w6.heap.size w6 w8 by rw [← h8]; exact hq.out.2.alloc hq.out.2.size _)
            have HS8 := hide (show Blk w8 ks #[.int .i64 kd, .string t, .int .u64 (st.w0 : Int), .int .u64 (st.w1 : Int), .int .u64 (st.w2 : Int), .int .u64 (st.w3 : Int), .string nm, .string sp] 61 by rw [← h8, ← hks]; exact Blk.new wr _ _)
            rw [h8, hks]
            clear h8 hks f0 f1 f2 f3 f4 f5 f6 f7 y0 y1 y4 yl hb2 hq
            have s0 := HS8.out.cell 0
            have s6 := HS8.out.cell 6
            have sl := HS8.out.lt
            have y0 := (HY6.out.below HBQ.out).cell 0
            have yl := (HY6.out.below HBQ.out).lt
            have HIN1 := hide (in_any (sortsL d.prods) nm _ c7 w8 (HR7.out.below StrAt.stable (below_next HB46.out HBQ.out)))
            have HIN2 := hide (in_any (lexL d) nm _ c8 w8 (HR8.out.below StrAt.stable (below_next HB46.out HBQ.out)))
            obtain ⟨mm, hmn0⟩ : ∃ mm, mustN (p.syms.take j) = mm := ⟨_, rfl⟩
            rw [hmn0] at hmb ⊢
            obtain ⟨lx, hlx⟩ : ∃ lx, p.lex = lx := ⟨_, rfl⟩
            rw [hlx] at y0
            have HLXE := hide hlx
            have HMN0 := hide hmn0
            clear hlx hmn0
            rcases emp_or nm with ⟨bn, zn, yn, vn, xn⟩ | ⟨bn, zn, yn, vn, xn⟩
            · have hne : (nm.toList == []) = true := by rw [xn]; rfl
              have hne2 : (!nm.toList == []) = false := by rw [hne]; rfl
              by_cases hk4 : kd = 4
              · have k4 : (kd == 4) = true := by simpa using hk4
                have k4n : (kd != 4) = false := by simp [hk4]
                have hmn : mustN (p.syms.take (j + 1)) = mustN (p.syms.take j) := by rw [HSN.out]; simp [leftB, hk4]
                rw [HMN0.out] at hmn
                clear hk4
                go_wp2_with fail
                go_roundg (p.syms.length - (j + 1))
                case measure => rw [hv.out]; omega
                case rel => exact ⟨j + 1, hide rfl, by go_num, by rw [hmn], hide ⟨hltj, HBQ.out⟩⟩
              have k4 : (kd == 4) = false := by simpa using hk4
              have k4n : (kd != 4) = true := by simp [hk4]
              by_cases hk5 : kd = 5
              · have k5 : (kd == 5) = true := by simpa using hk5
                have k5n : (kd != 5) = false := by simp [hk5]
                have hmn : mustN (p.syms.take (j + 1)) = mustN (p.syms.take j) := by rw [HSN.out]; simp [leftB, hk5]
                rw [HMN0.out] at hmn
                clear hk5 hk4
                go_wp2_with fail
                go_roundg (p.syms.length - (j + 1))
                case measure => rw [hv.out]; omega
                case rel => exact ⟨j + 1, hide rfl, by go_num, by rw [hmn], hide ⟨hltj, HBQ.out⟩⟩
              have k5 : (kd == 5) = false := by simpa using hk5
              have k5n : (kd != 5) = true := by simp [hk5]
              have hmn : mustN (p.syms.take (j + 1)) = mustN (p.syms.take j) + 1 := by rw [HSN.out]; simp [leftB, hk4, hk5]
              rw [HMN0.out] at hmn
              clear hk5 hk4
              go_wp2_with fail
              go_roundg (p.syms.length - (j + 1))
              case measure => rw [hv.out]; omega
              case rel => exact ⟨j + 1, hide rfl, by go_num, by rw [hmn]; go_num, hide ⟨hltj, HBQ.out⟩⟩
            have hne : (nm.toList == []) = false := beq_eq_false_iff_ne.2 xn
            have hne2 : (!nm.toList == []) = true := by rw [hne]; rfl
            have hi1 := HNM.out zn.out
            rw [hi1] at HIN1
            clear hi1
            cases lx with
            | false =>
              by_cases hk4 : kd = 4
              · have k4 : (kd == 4) = true := by simpa using hk4
                have k4n : (kd != 4) = false := by simp [hk4]
                have hmn : mustN (p.syms.take (j + 1)) = mustN (p.syms.take j) := by rw [HSN.out]; simp [leftB, hk4]
                rw [HMN0.out] at hmn
                clear hk4
                go_wp2_with fail
                refine HIN1.out.mono ?_
                rintro e w9 ⟨rfl, rfl⟩
                go_wp2_with fail
                go_roundg (p.syms.length - (j + 1))
                case measure => rw [hv.out]; omega
                case rel => exact ⟨j + 1, hide rfl, by go_num, by rw [hmn], hide ⟨hltj, HBQ.out⟩⟩
              have k4 : (kd == 4) = false := by simpa using hk4
              have k4n : (kd != 4) = true := by simp [hk4]
              by_cases hk5 : kd = 5
              · have k5 : (kd == 5) = true := by simpa using hk5
                have k5n : (kd != 5) = false := by simp [hk5]
                have hmn : mustN (p.syms.take (j + 1)) = mustN (p.syms.take j) := by rw [HSN.out]; simp [leftB, hk5]
                rw [HMN0.out] at hmn
                clear hk5 hk4
                go_wp2_with fail
                refine HIN1.out.mono ?_
                rintro e w9 ⟨rfl, rfl⟩
                go_wp2_with fail
                go_roundg (p.syms.length - (j + 1))
                case measure => rw [hv.out]; omega
                case rel => exact ⟨j + 1, hide rfl, by go_num, by rw [hmn], hide ⟨hltj, HBQ.out⟩⟩
              have k5 : (kd == 5) = false := by simpa using hk5
              have k5n : (kd != 5) = true := by simp [hk5]
              have hmn : mustN (p.syms.take (j + 1)) = mustN (p.syms.take j) + 1 := by rw [HSN.out]; simp [leftB, hk4, hk5]
              rw [HMN0.out] at hmn
              clear hk5 hk4
              go_wp2_with fail
              refine HIN1.out.mono ?_
              rintro e w9 ⟨rfl, rfl⟩
              go_wp2_with fail
              go_roundg (p.syms.length - (j + 1))
              case measure => rw [hv.out]; omega
              case rel => exact ⟨j + 1, hide rfl, by go_num, by rw [hmn]; go_num, hide ⟨hltj, HBQ.out⟩⟩
            | true =>
              have hi2 := HNL.out zn.out HLXE.out
              rw [hi2] at HIN2
              clear hi2
              by_cases hk4 : kd = 4
              · have k4 : (kd == 4) = true := by simpa using hk4
                have k4n : (kd != 4) = false := by simp [hk4]
                have hmn : mustN (p.syms.take (j + 1)) = mustN (p.syms.take j) := by rw [HSN.out]; simp [leftB, hk4]
                rw [HMN0.out] at hmn
                clear hk4
                go_wp2_with fail
                refine HIN1.out.mono ?_
                rintro e w9 ⟨rfl, rfl⟩
                go_wp2_with fail
                refine HIN2.out.mono ?_
                rintro e w9 ⟨rfl, rfl⟩
                go_wp2_with fail
                go_roundg (p.syms.length - (j + 1))
                case measure => rw [hv.out]; omega
                case rel => exact ⟨j + 1, hide rfl, by go_num, by rw [hmn], hide ⟨hltj, HBQ.out⟩⟩
              have k4 : (kd == 4) = false := by simpa using hk4
              have k4n : (kd != 4) = true := by simp [hk4]
              by_cases hk5 : kd = 5
              · have k5 : (kd == 5) = true := by simpa using hk5
                have k5n : (kd != 5) = false := by simp [hk5]
                have hmn : mustN (p.syms.take (j + 1)) = mustN (p.syms.take j) := by rw [HSN.out]; simp [leftB, hk5]
                rw [HMN0.out] at hmn
                clear hk5 hk4
                go_wp2_with fail
                refine HIN1.out.mono ?_
                rintro e w9 ⟨rfl, rfl⟩
                go_wp2_with fail
                refine HIN2.out.mono ?_
                rintro e w9 ⟨rfl, rfl⟩
                go_wp2_with fail
                go_roundg (p.syms.length - (j + 1))
                case measure => rw [hv.out]; omega
                case rel => exact ⟨j + 1, hide rfl, by go_num, by rw [hmn], hide ⟨hltj, HBQ.out⟩⟩
              have k5 : (kd == 5) = false := by simpa using hk5
              have k5n : (kd != 5) = true := by simp [hk5]
              have hmn : mustN (p.syms.take (j + 1)) = mustN (p.syms.take j) + 1 := by rw [HSN.out]; simp [leftB, hk4, hk5]
              rw [HMN0.out] at hmn
              clear hk5 hk4
              go_wp2_with fail
              refine HIN1.out.mono ?_
              rintro e w9 ⟨rfl, rfl⟩
              go_wp2_with fail
              refine HIN2.out.mono ?_
              rintro e w9 ⟨rfl, rfl⟩
              go_wp2_with fail
              go_roundg (p.syms.length - (j + 1))
              case measure => rw [hv.out]; omega
              case rel => exact ⟨j + 1, hide rfl, by go_num, by rw [hmn]; go_num, hide ⟨hltj, HBQ.out⟩⟩
          · have hltji : ¬ (j : Int) < (p.syms.length : Int) := by omega
            have hm0 : mustN (p.syms.take j) ≠ 0 := by rw [List.take_of_length_le (by omega)]; exact HOK.out.must HPM.out
            obtain ⟨mm, hmn0⟩ : ∃ mm, mustN (p.syms.take j) = mm := ⟨_, rfl⟩
            rw [hmn0] at hm0 ⊢
            have hm0i : ((mm : Int) == 0) = false := by rw [beq_eq_false_iff_ne]; omega
            have HBQ := hide hq.out.2
            have HLE := hide (HOK.out.lexEq HPM.out)
            have HINQ := hide (fun n => show Calls Try.prog 24 #[.slice a8 (lexL d).length c8, .string p.sort] (wr.drewN n) fun e w' => e = .returned (.bool p.lex) ∧ w' = wr.drewN n from (by
              have := (in_any (lexL d) p.sort _ c8 (wr.drewN n) (HR8.out.below StrAt.stable (below_next HB46.out (HBQ.out.trans ⟨rfl, rfl, rfl, Nat.le_refl _, fun _ _ => rfl⟩))))
              rw [HLE.out] at this
              exact this.mono (fun e w' h => ⟨h.1, h.2.symm⟩)))
            obtain ⟨lx, hlx⟩ : ∃ lx, p.lex = lx := ⟨_, rfl⟩
            rw [hlx] at y0 HINQ
            clear hmn0 hq hm0 hlx
            go_upto_region 20 with fail
            cases lx
            all_goals
              go_quiet ((go_at_call 24; exact Calls.quiet_of_same (HINQ.out _)))
              go_wp2_with fail
              go_roundg (d.prods.length - (k + 1))
              case measure => rw [hu.out]; omega
              case rel => exact ⟨k + 1, hide rfl, by go_num, hide ⟨hlt, below_next HB46.out (HBQ.out.trans ⟨rfl, rfl, rfl, Nat.le_refl _, fun _ _ => rfl⟩)⟩⟩
      · have hlti : ¬ (k : Int) < (d.prods.length : Int) := by omega
        have HAL := hide (alive_any wr)
        have HBW := hide hh.out.2
        clear hh
        go_wp2_with fail
        refine HAL.out.mono ?_
        rintro e w7 ⟨rfl, hb7⟩
        have HB47 := hide (below_next HBW.out hb7)
        clear q0 q1 q2 q3 q4 q5 q6 zl z1
        have HS7 := hide (HS.out w7 (below_next HS4.out.1.out HB47.out))
        obtain ⟨z1, zl, q0, q1, q2, q3, q4, q5, q6⟩ := HS7.out
        have HIN1 := hide (in_any (sortsL d.prods) d.start _ c7 w7 (HR7.out.below StrAt.stable HB47.out))
        have HIN2 := hide (in_any (lexL d) d.start _ c8 w7 (HR8.out.below StrAt.stable HB47.out))
        have HIN3 := hide (in_any (lexL d) d.layout _ c8 w7 (HR8.out.below StrAt.stable HB47.out))
        rw [HOK.out.starts.1] at HIN1
        rw [HOK.out.starts.2] at HIN2
        clear hb7
        go_wp2_with fail
        refine HIN1.out.mono ?_
        rintro e w9 ⟨rfl, rfl⟩
        go_wp2_with fail
        refine HIN2.out.mono ?_
        rintro e w9 ⟨rfl, rfl⟩
        have HFIN := hide (below_next HB2.out z1.out)
        rcases emp_or d.layout with ⟨bn, zn, yn, vn, xn⟩ | ⟨bn, zn, yn, vn, xn⟩
        · have hne : (d.layout.toList == []) = true := by rw [xn]; rfl
          go_wp2_with fail
          go_ret
          exact ⟨rfl, HFIN.out⟩
        · have hne : (d.layout.toList == []) = false := beq_eq_false_iff_ne.2 xn
          rw [HOK.out.lay zn.out] at HIN3
          go_wp2_with fail
          refine HIN3.out.mono ?_
          rintro e w9 ⟨rfl, rfl⟩
          go_wp2_with fail
          go_ret
          exact ⟨rfl, HFIN.out⟩
end Go.Proofs.Ytalicfpcmcbdbaa

set_option linter.unusedVariables false
set_option linter.unusedSimpArgs false
set_option linter.unnecessarySimpa false
set_option linter.deprecated false
namespace Go.Proofs.Ytalicfpcmcbdbaa
open Go.RowKit

theorem isLex_perm {l l' : List Pd} (h : l.Perm l') (s : ByteArray) (b : Bool) : isLex l s b = isLex l' s b := by
  rw [Bool.eq_iff_iff, isLex_iff, isLex_iff]
  exact ⟨fun ⟨p, hp, h1⟩ => ⟨p, h.mem_iff.1 hp, h1⟩, fun ⟨p, hp, h1⟩ => ⟨p, h.mem_iff.2 hp, h1⟩⟩
theorem lexOf_perm {l l' : List Pd} (h : l.Perm l') (s : ByteArray) : lexOf l s = lexOf l' s := by
  unfold lexOf; rw [isLex_perm h, isLex_perm h]
theorem Reach.sub {l l' : List Pd} {stp : Pd → List ByteArray} {a b : ByteArray} (h : ∀ p, p ∈ l → p ∈ l') (hr : Reach l stp a b) : Reach l' stp a b := by
  induction hr with
  | one hp hs hn => exact .one (h _ hp) hs hn
  | more _ hp hs hn ih => exact .more ih (h _ hp) hs hn
/-- Two productions that are not of one constructor. -/
def NoTw (p q : Pd) : Prop := ¬ (p.lex = false ∧ q.lex = false ∧ p.cons = q.cons ∧ emp q.cons = false)
theorem NoTw.symm {p q : Pd} (h : NoTw p q) : NoTw q p := fun ⟨h1, h2, h3, h4⟩ => h ⟨h2, h1, h3.symm, h3 ▸ h4⟩
theorem isCons_iff {s : ByteArray} {p : Pd} : isCons s p = true ↔ p.lex = false ∧ p.cons = s := by
  unfold isCons
  rw [Bool.and_eq_true, decide_eq_true_iff]
  cases p.lex <;> simp
theorem consIdx_cases (ps : List Pd) (s : ByteArray) : (consIdx ps s = -1 ∧ (emp s = true ∨ ∀ p ∈ ps, isCons s p = false)) ∨ (emp s = false ∧ ∃ k, ∃ hk : k < ps.length, consIdx ps s = (k : Int) ∧ isCons s ps[k] = true ∧ ∀ j (h : j < ps.length), j < k → isCons s ps[j] = false) := by
  unfold consIdx
  cases he : emp s
  · rw [if_neg (by decide)]
    rcases fIdx_spec (isCons s) ps 0 with ⟨h1, h2⟩ | ⟨k, hk, h1, h2, h3⟩
    · refine Or.inl ⟨h1, Or.inr fun p hp => ?_⟩
      obtain ⟨j, hj, rfl⟩ := List.mem_iff_getElem.1 hp
      exact h2 j hj
    · exact Or.inr ⟨rfl, k, hk, by rw [h1]; congr 1; omega, h2, h3⟩
  · rw [if_pos rfl]
    exact Or.inl ⟨rfl, Or.inl rfl⟩
theorem consIdx_neg (ps : List Pd) (s : ByteArray) : consIdx ps s < 0 ↔ emp s = true ∨ ∀ p ∈ ps, isCons s p = false := by
  rcases consIdx_cases ps s with ⟨h1, h2⟩ | ⟨he, k, hk, h1, h2, _⟩
  · rw [h1]; exact ⟨fun _ => h2, fun _ => by decide⟩
  · rw [h1]
    refine ⟨fun h => by omega, fun h => ?_⟩
    rcases h with h | h
    · rw [he] at h; cases h
    · rw [h _ (List.getElem_mem hk)] at h2; cases h2
theorem cons_iff (d : Df) : (∀ k (h : k < d.prods.length), consHit d k d.prods[k] = false) ↔ d.prods.Pairwise NoTw := by
  rw [List.pairwise_iff_getElem]
  constructor
  · rintro h i j hi hj hij ⟨h1, h2, h3, h4⟩
    have hc := h j hj
    have hci : isCons d.prods[j].cons d.prods[i] = true := isCons_iff.2 ⟨h1, h3⟩
    rcases consIdx_cases d.prods d.prods[j].cons with ⟨e1, e2⟩ | ⟨_, k, hk, e1, e2, e3⟩
    · rcases e2 with e2 | e2
      · rw [h4] at e2; cases e2
      · rw [e2 _ (List.getElem_mem hi)] at hci; cases hci
    · have hki : ¬ i < k := fun hik => by rw [e3 i hi hik] at hci; cases hci
      unfold consHit at hc
      rw [e1, h2, decide_eq_true (by omega), decide_eq_true (by omega)] at hc
      cases hc
  · intro h k hk
    cases hc : consHit d k d.prods[k] with
    | false => rfl
    | true =>
      exfalso
      unfold consHit at hc
      simp only [Bool.and_eq_true, decide_eq_true_eq, Bool.not_eq_true'] at hc
      obtain ⟨⟨h1, h2⟩, h3⟩ := hc
      rcases consIdx_cases d.prods d.prods[k].cons with ⟨e1, _⟩ | ⟨he, k0, hk0, e1, e2, _⟩
      · omega
      · have := isCons_iff.1 e2
        exact h k0 k hk0 hk (by omega) ⟨this.1, h1, this.2, he⟩
theorem rej_iff (d : Df) : (∀ k (h : k < d.rejects.length), rejHit d k d.rejects[k] = false) ↔ (∀ r ∈ d.rejects, rej0 d r = false ∧ ¬ ∃ s, Reach d.prods namesL r.by_ s ∧ s ∈ heldL d) ∧ d.rejects.Pairwise (fun r x => r.sort ≠ x.sort) := by
  have key : ∀ k r, rejHit d k r = false ↔ rej0 d r = false ∧ (∀ x ∈ d.rejects.take k, x.sort ≠ r.sort) ∧ ¬ ∃ s, Reach d.prods namesL r.by_ s ∧ s ∈ heldL d := by
    intro k r
    rw [← Bool.not_eq_true, rejHit_iff]
    unfold rejA
    rw [Bool.or_eq_true, List.any_eq_true]
    simp only [decide_eq_true_eq, not_or]
    constructor
    · rintro ⟨⟨h1, h2⟩, h3⟩
      exact ⟨by simpa using h1, fun x hx e => h2 ⟨x, hx, e⟩, h3⟩
    · rintro ⟨h1, h2, h3⟩
      exact ⟨⟨by simpa using h1, fun ⟨x, hx, e⟩ => h2 x hx e⟩, h3⟩
  rw [List.pairwise_iff_getElem]
  constructor
  · intro h
    refine ⟨fun r hr => ?_, fun i j hi hj hij e => ?_⟩
    · obtain ⟨k, hk, rfl⟩ := List.mem_iff_getElem.1 hr
      have := (key _ _).1 (h k hk)
      exact ⟨this.1, this.2.2⟩
    · have := ((key _ _).1 (h j hj)).2.1 d.rejects[i] (List.mem_iff_getElem.2 ⟨i, by rw [List.length_take]; omega, by rw [List.getElem_take]⟩)
      exact this e
  · rintro ⟨h1, h2⟩ k hk
    refine (key _ _).2 ⟨(h1 _ (List.getElem_mem hk)).1, fun x hx => ?_, (h1 _ (List.getElem_mem hk)).2⟩
    obtain ⟨i, hi, rfl⟩ := List.mem_iff_getElem.1 hx
    rw [List.length_take] at hi
    rw [List.getElem_take]
    exact h2 i k (by omega) hk (by omega)
theorem uniq {ps : List Pd} (h : ps.Pairwise NoTw) {p q : Pd} (hp : p ∈ ps) (hq : q ∈ ps) {s : ByteArray} (he : emp s = false) (h1 : isCons s p = true) (h2 : isCons s q = true) : p = q := by
  obtain ⟨i, hi, rfl⟩ := List.mem_iff_getElem.1 hp
  obtain ⟨j, hj, rfl⟩ := List.mem_iff_getElem.1 hq
  have a1 := isCons_iff.1 h1
  have a2 := isCons_iff.1 h2
  rw [List.pairwise_iff_getElem] at h
  rcases Nat.lt_trichotomy i j with e | e | e
  · exact absurd ⟨a1.1, a2.1, a1.2.trans a2.2.symm, by rw [a2.2]; exact he⟩ (h i j hi hj e)
  · subst e; rfl
  · exact absurd ⟨a2.1, a1.1, a2.2.trans a1.2.symm, by rw [a1.2]; exact he⟩ (h j i hj hi e)
theorem box_iff (d : Df) (hn : d.prods.Pairwise NoTw) : (∀ k (h : k < d.boxes.length), boxHit d k d.boxes[k] = false) ↔ (∀ x ∈ d.boxes, emp x.cons = false ∧ ∃ p ∈ d.prods, isCons x.cons p = true ∧ fitOk p x.items = true) ∧ d.boxes.Pairwise (fun x y => x.cons ≠ y.cons) := by
  have key : ∀ k x, boxHit d k x = false ↔ (emp x.cons = false ∧ ∃ p ∈ d.prods, isCons x.cons p = true ∧ fitOk p x.items = true) ∧ (∀ y ∈ d.boxes.take k, y.cons ≠ x.cons) := by
    intro k x
    unfold boxHit
    rw [Bool.or_eq_false_iff, Bool.or_eq_false_iff, decide_eq_false_iff_not]
    have hin : inB x.cons (metB d k) = false ↔ ∀ y ∈ d.boxes.take k, y.cons ≠ x.cons := by
      rw [← Bool.not_eq_true, inB_iff]
      unfold metB
      rw [List.mem_map]
      exact ⟨fun h y hy e => h ⟨y, hy, e⟩, fun h ⟨y, hy, e⟩ => h y hy e⟩
    rw [hin]
    rcases consIdx_cases d.prods x.cons with ⟨e1, e2⟩ | ⟨he, k0, hk0, e1, e2, _⟩
    · rw [e1]
      constructor
      · rintro ⟨⟨h1, _⟩, _⟩; exact absurd (by decide) h1
      · rintro ⟨⟨h1, p, hp, h2, _⟩, _⟩
        rcases e2 with e2 | e2
        · rw [h1] at e2; cases e2
        · rw [e2 p hp] at h2; cases h2
    · rw [e1, Int.toNat_natCast, List.getElem?_eq_getElem hk0]
      simp only [Bool.not_eq_false']
      constructor
      · rintro ⟨⟨_, h2⟩, h3⟩
        exact ⟨⟨he, _, List.getElem_mem hk0, e2, h3⟩, h2⟩
      · rintro ⟨⟨_, p, hp, h2, h3⟩, h4⟩
        have := uniq hn hp (List.getElem_mem hk0) he h2 e2
        subst this
        exact ⟨⟨by omega, h4⟩, h3⟩
  rw [List.pairwise_iff_getElem]
  constructor
  · intro h
    refine ⟨fun r hr => ?_, fun i j hi hj hij e => ?_⟩
    · obtain ⟨k, hk, rfl⟩ := List.mem_iff_getElem.1 hr
      exact ((key _ _).1 (h k hk)).1
    · exact ((key _ _).1 (h j hj)).2 d.boxes[i] (List.mem_iff_getElem.2 ⟨i, by rw [List.length_take]; omega, by rw [List.getElem_take]⟩) e
  · rintro ⟨h1, h2⟩ k hk
    refine (key _ _).2 ⟨h1 _ (List.getElem_mem hk), fun x hx => ?_⟩
    obtain ⟨i, hi, rfl⟩ := List.mem_iff_getElem.1 hx
    rw [List.length_take] at hi
    rw [List.getElem_take]
    exact h2 i k (by omega) hk (by omega)
theorem all_perm {α : Type} {l l' : List α} (h : l.Perm l') {p : α → Bool} (ha : l.all p = true) : l'.all p = true := by
  rw [List.all_eq_true] at ha ⊢
  exact fun x hx => ha x (h.mem_iff.2 hx)
/-- In whatever order things stand, a definition is right or not. -/
theorem OkD.perm {d : Df} {P : List Pd} {F : List Fl} {R : List Rj} {B : List Bx} (hP : d.prods.Perm P) (hF : d.follows.Perm F) (hR : d.rejects.Perm R) (hB : d.boxes.Perm B) (h : OkD d) : OkD ⟨d.start, d.layout, P, d.chains, F, R, B⟩ := by
  have hcons := (cons_iff d).1 h.cons
  have hconsP : P.Pairwise NoTw := (hP.pairwise_iff (fun h => NoTw.symm h)).1 hcons
  have hheld : ∀ s, s ∈ heldL ⟨d.start, d.layout, P, d.chains, F, R, B⟩ ↔ s ∈ heldL d := fun s => by
    unfold heldL
    rw [List.mem_append, List.mem_append, (hR.map Rj.sort).mem_iff, (hF.map Fl.sort).mem_iff]
  have hbad : badC ⟨d.start, d.layout, P, d.chains, F, R, B⟩ = badC d := by
    funext s
    unfold badC
    rw [Bool.eq_iff_iff, decide_eq_true_iff, decide_eq_true_iff, consIdx_neg, consIdx_neg]
    exact ⟨fun h => h.imp id (fun h p hp => h p (hP.mem_iff.1 hp)), fun h => h.imp id (fun h p hp => h p (hP.mem_iff.2 hp))⟩
  refine ⟨?_, ?_, ?_, ?_, ?_, ?_, ?_, ?_, ?_, ?_, ?_, ?_, ?_, ?_, ?_⟩
  · have hf := h.form
    unfold rightDfB at hf ⊢
    simp only [Bool.and_eq_true, decide_eq_true_eq] at hf ⊢
    exact ⟨hf.1, hf.2.1, by rw [← hP.length_eq]; exact hf.2.2.1, all_perm hP hf.2.2.2.1, hf.2.2.2.2.1, all_perm hF hf.2.2.2.2.2.1, all_perm hR hf.2.2.2.2.2.2.1, all_perm hB hf.2.2.2.2.2.2.2⟩
  · intro s hs
    rw [← lexOf_perm hP]
    obtain ⟨p, hp, e⟩ := (mem_sortsL s P).1 hs
    exact h.mixed s ((mem_sortsL s _).2 ⟨p, hP.mem_iff.2 hp, e⟩)
  · rw [← lexOf_perm hP]; exact h.start
  · rw [← lexOf_perm hP]; exact h.layout
  · intro s hs
    rw [← lexOf_perm hP]
    refine h.undef s ?_
    unfold usedL at hs ⊢
    rw [List.mem_append, List.mem_append] at hs ⊢
    exact hs.imp (fun h => h.imp (fun h => (hP.flatMap_right namesL).mem_iff.2 h) (fun h => (hF.map Fl.sort).mem_iff.2 h)) (fun h => (hR.flatMap_right rejN).mem_iff.2 h)
  · intro p hp
    have := h.kind p (hP.mem_iff.2 hp)
    unfold kindB at this ⊢
    rw [← this]
    congr 1
    funext s
    unfold kindS
    rw [isLex_perm hP]
  · exact (cons_iff ⟨d.start, d.layout, P, d.chains, F, R, B⟩).2 hconsP
  · exact fun p hp => h.brack p (hP.mem_iff.2 hp)
  · exact fun p hp => h.long p (hP.mem_iff.2 hp)
  · exact fun p hp => h.null p (hP.mem_iff.2 hp)
  · intro s hs hr
    obtain ⟨p, hp, e⟩ := (mem_sortsL s P).1 hs
    exact h.cycle s ((mem_sortsL s _).2 ⟨p, hP.mem_iff.2 hp, e⟩) (hr.sub (fun p hp => hP.mem_iff.2 hp))
  · have hr := (rej_iff d).1 h.rej
    refine (rej_iff ⟨d.start, d.layout, P, d.chains, F, R, B⟩).2 ⟨fun r hr2 => ?_, (hR.pairwise_iff (fun h e => h e.symm)).1 hr.2⟩
    have h1 := hr.1 r (hR.mem_iff.2 hr2)
    refine ⟨?_, fun ⟨s, hs1, hs2⟩ => h1.2 ⟨s, hs1.sub (fun p hp => hP.mem_iff.2 hp), (hheld s).1 hs2⟩⟩
    rw [← h1.1]
    unfold rej0
    rw [← isLex_perm hP, ← isLex_perm hP]
    congr 1
    rw [Bool.eq_iff_iff, inB_iff, inB_iff]
    exact hheld _
  · intro ch hc
    have := h.prio ch hc
    unfold prioF at this ⊢
    rw [hbad]; exact this
  · exact fun f hf => h.follow f (hF.mem_iff.2 hf)
  · have hb := (box_iff d hcons).1 h.box
    refine (box_iff ⟨d.start, d.layout, P, d.chains, F, R, B⟩ hconsP).2 ⟨fun x hx => ?_, (hB.pairwise_iff (fun h e => h e.symm)).1 hb.2⟩
    obtain ⟨he, p, hp, h1⟩ := hb.1 x (hB.mem_iff.2 hx)
    exact ⟨he, p, hP.mem_iff.1 hp, h1⟩
theorem OkD.perm_iff {d : Df} {P : List Pd} {F : List Fl} {R : List Rj} {B : List Bx} (hP : d.prods.Perm P) (hF : d.follows.Perm F) (hR : d.rejects.Perm R) (hB : d.boxes.Perm B) : OkD ⟨d.start, d.layout, P, d.chains, F, R, B⟩ ↔ OkD d :=
  ⟨fun h => OkD.perm (d := ⟨d.start, d.layout, P, d.chains, F, R, B⟩) hP.symm hF.symm hR.symm hB.symm h, OkD.perm hP hF hR hB⟩
end Go.Proofs.Ytalicfpcmcbdbaa

set_option linter.unusedVariables false
set_option linter.unusedSimpArgs false
set_option linter.unnecessarySimpa false
set_option linter.deprecated false
namespace Go.Proofs.Ytalicfpcmcbdbaa
open Go.RowKit

theorem info38 : (Try.prog.info? 38).map (fun i => (i.zero, i.size, i.bytes)) = some (some (.agg #[.bool false, .string ⟨#[]⟩, .string ⟨#[]⟩, .bool false, .slice none 0 0]), 5, 72) := by kernel_rfl
theorem info48 : (Try.prog.info? 48).map (fun i => (i.zero, i.size, i.bytes)) = some (some (.agg #[.string ⟨#[]⟩, .int .u64 0, .int .u64 0, .int .u64 0, .int .u64 0]), 5, 48) := by kernel_rfl
theorem info50 : (Try.prog.info? 50).map (fun i => (i.zero, i.size, i.bytes)) = some (some (.agg #[.string ⟨#[]⟩, .string ⟨#[]⟩]), 2, 32) := by kernel_rfl
theorem info53 : (Try.prog.info? 53).map (fun i => (i.zero, i.size, i.bytes)) = some (some (.agg #[.string ⟨#[]⟩, .slice none 0 0]), 2, 40) := by kernel_rfl
/-- The first k of a list's things, from place b on and then from the beginning. -/
def rotT {α : Type} (l : List α) (b k : Nat) : List α := (rotI l.length b k).filterMap (fun i => l[i]?)
theorem rotT_snoc {α : Type} (l : List α) (b k r : Nat) (hr : (k + b) % l.length = r) (h : r < l.length) : rotT l b (k + 1) = rotT l b k ++ [l[r]] := by
  unfold rotT
  rw [rotI_snoc, List.filterMap_append, hr]
  simp [List.getElem?_eq_getElem h]
theorem rotT_len {α : Type} (l : List α) (b k : Nat) (h : 0 < l.length ∨ k = 0) : (rotT l b k).length = k := by
  induction k with
  | zero => rfl
  | succ k ih =>
    rcases h with h | h
    · rw [rotT_snoc l b k _ rfl (Nat.mod_lt _ h), List.length_append, ih (Or.inl h)]; rfl
    · cases h
theorem take_map {α : Type} (l : List α) : ∀ k, k ≤ l.length → (List.range k).filterMap (fun i => l[i]?) = l.take k
  | 0, _ => by simp
  | k + 1, h => by
    rw [List.range_succ, List.filterMap_append, take_map l k (by omega), take_snoc l k (by omega)]
    simp [List.getElem?_eq_getElem (show k < l.length by omega)]
theorem rotI_perm (n b : Nat) (h : b < n) : (rotI n b n).Perm (List.range n) := by
  have e : rotI n b n = List.range' b (n - b) ++ List.range b := by
    apply List.ext_getElem
    · rw [rotI_len, List.length_append, List.length_range', List.length_range]; omega
    · intro i h1 h2
      rw [rotI_len] at h1
      have hgi : (rotI n b n)[i] = (i + b) % n := by simp [rotI]
      rw [hgi]
      by_cases hi : i < n - b
      · rw [List.getElem_append_left (by rw [List.length_range']; exact hi), List.getElem_range', Nat.mod_eq_of_lt (by omega)]; omega
      · rw [List.getElem_append_right (by rw [List.length_range']; omega), List.getElem_range, List.length_range', Nat.mod_eq_sub_mod (by omega), Nat.mod_eq_of_lt (by omega)]; omega
  have e2 : List.range n = List.range b ++ List.range' b (n - b) := by
    rw [List.range_eq_range', List.range_eq_range', show List.range' 0 n = List.range' 0 (b + (n - b)) by rw [show b + (n - b) = n by omega], ← List.range'_append]
    simp
  rw [e, e2]
  exact List.perm_append_comm
theorem rotT_perm {α : Type} (l : List α) (b : Nat) (h : 0 < l.length → b < l.length) : l.Perm (rotT l b l.length) := by
  by_cases h0 : l.length = 0
  · have : l = [] := List.eq_nil_of_length_eq_zero h0
    subst this; exact List.Perm.refl _
  · have h1 := (rotI_perm l.length b (h (by omega))).filterMap (fun i => l[i]?)
    rw [take_map l l.length (Nat.le_refl _), List.take_length] at h1
    exact h1.symm
theorem flat_get {sz : Nat} : ∀ (css : List (List Value)), (∀ cs ∈ css, cs.length = sz) → ∀ i (h : i < css.length) j, j < sz → css.flatten[i * sz + j]? = (css[i])[j]?
  | [], _, i, h, _, _ => absurd h (by simp)
  | c :: css, hs, 0, h, j, hj => by
    have := hs c (List.mem_cons_self ..)
    simp only [Nat.zero_mul, Nat.zero_add, List.flatten_cons, List.getElem_cons_zero]
    rw [List.getElem?_append_left (by omega)]
  | c :: css, hs, i + 1, h, j, hj => by
    have h1 := hs c (List.mem_cons_self ..)
    simp only [List.flatten_cons, List.getElem_cons_succ]
    rw [List.getElem?_append_right (by rw [h1, Nat.add_mul]; omega), h1, show (i + 1) * sz + j - sz = i * sz + j by rw [Nat.add_mul]; omega]
    exact flat_get css (fun cs hc => hs cs (List.mem_cons_of_mem _ hc)) i (by simpa using h) j hj
/-- A row of one's own of things that are more than a cell, whose cells read so in every later world. -/
structure TuL {α : Type} (At : α → Nat → Nat → World → Prop) (w1 : World) (B : Nat) (e : TypeId) (sz : Nat) (l : List α) (v : Value) (css : List (List Value)) (W : World) : Prop where
  own : W.ownsRow B e sz v css.length css.flatten
  len : css.length = l.length
  sz : ∀ cs ∈ css, cs.length = sz
  at_ : ∀ i (h : i < css.length) (h2 : i < l.length), ∀ W', Below w1.heap.size w1 W' → ∀ b o, CellsAt css[i] b o W' → At l[i] b o W'
theorem TuL.nil {α : Type} {At : α → Nat → Nat → World → Prop} (w1 : World) (B : Nat) (e : TypeId) (sz : Nat) (W : World) : TuL At w1 B e sz [] (.slice none 0 0) [] W :=
  ⟨World.ownsRow_nil _ _ _ _, rfl, fun _ h => (by cases h), fun i h => absurd h (by simp)⟩
theorem TuL.kept {α : Type} {At : α → Nat → Nat → World → Prop} {w1 : World} {B : Nat} {e : TypeId} {sz : Nat} {l : List α} {v : Value} {css : List (List Value)} {W W' : World} (h : TuL At w1 B e sz l v css W) {row : Option Nat} (hg : W.grownBy W' row) (hne : v.ownBlock = none ∨ v.ownBlock ≠ row) : TuL At w1 B e sz l v css W' :=
  ⟨h.own.kept hg hne, h.len, h.sz, h.at_⟩
theorem TuL.push {α : Type} {At : α → Nat → Nat → World → Prop} {w1 : World} {B : Nat} {e : TypeId} {sz : Nat} {l : List α} {v v' : Value} {css : List (List Value)} {W W' : World} {cs : List Value} {x : α} {m : Nat} (h : TuL At w1 B e sz l v css W) (ho : W'.ownsRow B e sz v' m (css.flatten ++ cs)) (hm : m = css.length + 1) (hc : cs.length = sz)
    (hat : ∀ W', Below w1.heap.size w1 W' → ∀ b o, CellsAt cs b o W' → At x b o W') : TuL At w1 B e sz (l ++ [x]) v' (css ++ [cs]) W' := by
  subst hm
  refine ⟨by rw [List.length_append, List.flatten_append]; simpa using ho, by rw [List.length_append, List.length_append, h.len]; rfl, fun c hcm => ?_, fun i hi hi2 W2 hb b o hcc => ?_⟩
  · rcases List.mem_append.1 hcm with h1 | h1
    · exact h.sz c h1
    · simp at h1; subst h1; exact hc
  · by_cases hil : i < css.length
    · rw [List.getElem_append_left hil] at hcc
      rw [List.getElem_append_left (by rw [← h.len]; exact hil)]
      exact h.at_ i hil (by rw [← h.len]; exact hil) W2 hb b o hcc
    · have hie : i = css.length := by rw [List.length_append] at hi; simp at hi; omega
      subst hie
      rw [List.getElem_append_right (Nat.le_refl _)] at hcc
      rw [List.getElem_append_right (by rw [h.len]; exact Nat.le_refl _)]
      simp only [Nat.sub_self, List.getElem_cons_zero, h.len] at hcc ⊢
      exact hat W2 hb b o hcc
theorem TuL.row {α : Type} {At : α → Nat → Nat → World → Prop} {w1 : World} {B : Nat} {e : TypeId} {sz : Nat} {l : List α} {v : Value} {css : List (List Value)} {W : World} (h : TuL At w1 B e sz l v css W) (hb : Below w1.heap.size w1 W) (hl : l.length ≤ 100000) : ∃ a c, v = .slice a l.length c ∧ Row At sz l a W ∧ l.length ≤ c := by
  have hlen := h.len
  rcases h.own.2 with ⟨h1, h0⟩ | ⟨g, cap, cur, h1, h2, h3, h4, h5, h6, h7⟩
  · have hl0 : l.length = 0 := by omega
    have : l = [] := List.eq_nil_of_length_eq_zero hl0
    subst this
    exact ⟨none, 0, h1, Row.nil, Nat.le_refl _⟩
  · refine ⟨some ⟨g, 0, none⟩, cap, by rw [h1, hlen], ⟨by omega, fun hn => ⟨g, 0, rfl, (Array.getElem?_eq_some_iff.1 h3).1, fun i hi => ?_⟩⟩, by omega⟩
    have hic : i < css.length := by omega
    refine h.at_ i hic hi W hb g (0 + i * sz) fun j u hj => ?_
    have hsz := h.sz _ (List.getElem_mem hic)
    have hjs : j < sz := by rw [← hsz]; exact (List.getElem?_eq_some_iff.1 hj).1
    have hbk : Blk W g cur e := h3
    have hf := flat_get css h.sz i hic j hjs
    rw [hj, ← h7, List.getElem?_take] at hf
    rw [hbk.cell, Nat.zero_add]
    split at hf
    · rw [← hf]; simp
    · cases hf
theorem own_apart {W : World} {B B' n n' size size' : Nat} {e e' : TypeId} {v v' : Value} {xs xs' : List Value} (h : W.ownsRow B e size v n xs) (h' : W.ownsRow B' e' size' v' n' xs') (he : e ≠ e') : v.ownBlock = none ∨ v.ownBlock ≠ v'.ownBlock := by
  rcases h.2 with ⟨rfl, _⟩ | ⟨g, cap, cur, rfl, _, hg, _⟩
  · exact Or.inl rfl
  · right
    intro e1
    rcases h'.2 with ⟨rfl, _⟩ | ⟨g', cap', cur', rfl, _, hg', _⟩
    · cases e1
    · simp only [Value.ownBlock, Option.some.injEq] at e1
      subst e1
      rw [hg] at hg'
      injection hg' with hg'
      injection hg' with _ h3 _
      exact he h3
end Go.Proofs.Ytalicfpcmcbdbaa

set_option linter.unusedVariables false
set_option linter.unusedSimpArgs false
set_option linter.unnecessarySimpa false
set_option linter.deprecated false
namespace Go.Proofs.Ytalicfpcmcbdbaa
open Go.RowKit

/-- Nothing of what stood has turned but in a block of that type. -/
def Touch (W W' : World) (t : TypeId) : Prop := ∃ row, W.grownBy W' row ∧ ∀ g, row = some g → ∃ c, Blk W g c t
theorem Touch.own {W W' : World} {t : TypeId} (ht : Touch W W' t) {B n size : Nat} {e : TypeId} {v : Value} {xs : List Value} (h : W.ownsRow B e size v n xs) (hne : e ≠ t) : W'.ownsRow B e size v n xs := by
  obtain ⟨row, hg, hr⟩ := ht
  refine h.kept hg ?_
  rcases h.2 with ⟨rfl, _⟩ | ⟨g, cap, cur, rfl, _, hgg, _⟩
  · exact Or.inl rfl
  · refine Or.inr fun e1 => ?_
    obtain ⟨c, hc⟩ := hr g e1.symm
    unfold Blk at hc
    rw [hgg] at hc
    injection hc with hc
    injection hc with _ h3 _
    exact hne h3
theorem Touch.blk {W W' : World} {t t' : TypeId} (ht : Touch W W' t) {g : Nat} {c : Array Value} (h : Blk W g c t') (hne : t' ≠ t) : Blk W' g c t' := by
  obtain ⟨row, hg, hr⟩ := ht
  refine h.grown hg fun e1 => ?_
  obtain ⟨c', hc⟩ := hr g e1.symm
  exact h.ne hc hne rfl
theorem Touch.of_below {W W' : World} {t : TypeId} (h : Below W.heap.size W W') : Touch W W' t := ⟨none, ⟨h.os, h.tape, h.output, h.size, fun k hk _ => h.block k hk⟩, fun g h => by cases h⟩
theorem Touch.of_own {W W' : World} {B n size : Nat} {e : TypeId} {v : Value} {xs : List Value} (h : W.ownsRow B e size v n xs) (hg : W.grownBy W' v.ownBlock) : Touch W W' e := by
  refine ⟨_, hg, fun g e1 => ?_⟩
  rcases h.2 with ⟨rfl, _⟩ | ⟨g', cap, cur, rfl, _, hgg, _⟩
  · cases e1
  · simp only [Value.ownBlock, Option.some.injEq] at e1
    subst e1
    exact ⟨cur, hgg⟩
theorem Touch.set {W : World} {g i : Nat} {c : Array Value} {t : TypeId} (h : Blk W g c t) (u : Value) : Touch W (W.setCell ⟨g, i, none⟩ u) t := ⟨some g, grown_cell _ _ _ _, fun g' e => by injection e with e; subst e; exact ⟨c, h⟩⟩
/-- A row of one's own of things whose cells (and what these lead to) are one's own, too. -/
structure OwnE {α : Type} (E : α → List Value → World → Prop) (B : Nat) (e : TypeId) (sz : Nat) (l : List α) (v : Value) (css : List (List Value)) (W : World) : Prop where
  own : W.ownsRow B e sz v css.length css.flatten
  len : css.length = l.length
  sz : ∀ cs ∈ css, cs.length = sz
  each : ∀ i (h : i < css.length) (h2 : i < l.length), E l[i] css[i] W
theorem OwnE.nil {α : Type} {E : α → List Value → World → Prop} (B : Nat) (e : TypeId) (sz : Nat) (W : World) : OwnE E B e sz [] (.slice none 0 0) [] W :=
  ⟨World.ownsRow_nil _ _ _ _, rfl, fun _ h => (by cases h), fun i h => absurd h (by simp)⟩
theorem OwnE.keep {α : Type} {E E' : α → List Value → World → Prop} {B : Nat} {e : TypeId} {sz : Nat} {l : List α} {v : Value} {css : List (List Value)} {W W' : World} (h : OwnE E B e sz l v css W) (ho : W'.ownsRow B e sz v css.length css.flatten) (hs : ∀ x cs, E x cs W → E' x cs W') : OwnE E' B e sz l v css W' :=
  ⟨ho, h.len, h.sz, fun i h1 h2 => hs _ _ (h.each i h1 h2)⟩
/-- What things are stays when a block of type t is touched. -/
def StT {α : Type} (E : α → List Value → World → Prop) (t : TypeId) : Prop := ∀ x cs W W', Touch W W' t → E x cs W → E x cs W'
theorem OwnE.touch {α : Type} {E : α → List Value → World → Prop} {B : Nat} {e t : TypeId} {sz : Nat} {l : List α} {v : Value} {css : List (List Value)} {W W' : World} (h : OwnE E B e sz l v css W) (ht : Touch W W' t) (hne : e ≠ t) (hs : StT E t) : OwnE E B e sz l v css W' :=
  ⟨ht.own h.own hne, h.len, h.sz, fun i h1 h2 => hs _ _ _ _ ht (h.each i h1 h2)⟩
theorem OwnE.below {α : Type} {E : α → List Value → World → Prop} {B : Nat} {e : TypeId} {sz : Nat} {l : List α} {v : Value} {css : List (List Value)} {W W' : World} (h : OwnE E B e sz l v css W) (hb : Below W.heap.size W W') (hs : ∀ t, t = 28 → StT E t) : OwnE E B e sz l v css W' :=
  ⟨own_below h.own hb, h.len, h.sz, fun i h1 h2 => hs 28 rfl _ _ _ _ (Touch.of_below hb) (h.each i h1 h2)⟩
theorem OwnE.base {α : Type} {E : α → List Value → World → Prop} {B B' : Nat} {e : TypeId} {sz : Nat} {l : List α} {v : Value} {css : List (List Value)} {W : World} (h : OwnE E B e sz l v css W) (hB : B' ≤ B) : OwnE E B' e sz l v css W := ⟨own_base h.own hB, h.len, h.sz, h.each⟩
theorem OwnE.pushG {α : Type} {E E' : α → List Value → World → Prop} {B : Nat} {e : TypeId} {sz : Nat} {l : List α} {v v' : Value} {css : List (List Value)} {W W' : World} {cs : List Value} {x : α} {m : Nat} (h : OwnE E B e sz l v css W) (ho : W'.ownsRow B e sz v' m (css.flatten ++ cs)) (hm : m = css.length + 1) (hc : cs.length = sz)
    (hs : ∀ x cs, E x cs W → E' x cs W') (hx : E x cs W) : OwnE E' B e sz (l ++ [x]) v' (css ++ [cs]) W' := by
  subst hm
  refine ⟨by rw [List.length_append, List.flatten_append]; simpa using ho, by rw [List.length_append, List.length_append, h.len]; rfl, fun c hcm => ?_, fun i hi hi2 => ?_⟩
  · rcases List.mem_append.1 hcm with h1 | h1
    · exact h.sz c h1
    · simp at h1; subst h1; exact hc
  · by_cases hil : i < css.length
    · rw [List.getElem_append_left hil, List.getElem_append_left (by rw [← h.len]; exact hil)]
      exact hs _ _ (h.each i hil (by rw [← h.len]; exact hil))
    · have hie : i = css.length := by rw [List.length_append] at hi; simp at hi; omega
      subst hie
      rw [List.getElem_append_right (Nat.le_refl _), List.getElem_append_right (by rw [h.len]; exact Nat.le_refl _)]
      simp only [Nat.sub_self, List.getElem_cons_zero, h.len]
      exact hs _ _ hx
theorem OwnE.push {α : Type} {E : α → List Value → World → Prop} {B : Nat} {e : TypeId} {sz : Nat} {l : List α} {v v' : Value} {css : List (List Value)} {W W' : World} {cs : List Value} {x : α} {m : Nat} (h : OwnE E B e sz l v css W) (ho : W'.ownsRow B e sz v' m (css.flatten ++ cs)) (hm : m = css.length + 1) (hc : cs.length = sz)
    (ht : Touch W W' e) (hs : StT E e) (hx : E x cs W) : OwnE E B e sz (l ++ [x]) v' (css ++ [cs]) W' :=
  h.pushG ho hm hc (fun x cs he => hs _ _ _ _ ht he) hx
theorem OwnE.row {α : Type} {E : α → List Value → World → Prop} {At : α → Nat → Nat → World → Prop} {B : Nat} {e : TypeId} {sz : Nat} {l : List α} {v : Value} {css : List (List Value)} {W : World} (h : OwnE E B e sz l v css W) (hat : ∀ x ∈ l, ∀ cs b o, E x cs W → CellsAt cs b o W → At x b o W) (hl : l.length ≤ 140737488351232) : ∃ a c, v = .slice a l.length c ∧ Row At sz l a W ∧ l.length ≤ c := by
  have hlen := h.len
  rcases h.own.2 with ⟨h1, h0⟩ | ⟨g, cap, cur, h1, h2, h3, h4, h5, h6, h7⟩
  · have hl0 : l.length = 0 := by omega
    have : l = [] := List.eq_nil_of_length_eq_zero hl0
    subst this
    exact ⟨none, 0, h1, Row.nil, Nat.le_refl _⟩
  · refine ⟨some ⟨g, 0, none⟩, cap, by rw [h1, hlen], ⟨hl, fun hn => ⟨g, 0, rfl, (Array.getElem?_eq_some_iff.1 h3).1, fun i hi => ?_⟩⟩, by omega⟩
    have hic : i < css.length := by omega
    refine hat _ (List.getElem_mem hi) _ g (0 + i * sz) (h.each i hic hi) fun j u hj => ?_
    have hsz := h.sz _ (List.getElem_mem hic)
    have hjs : j < sz := by rw [← hsz]; exact (List.getElem?_eq_some_iff.1 hj).1
    have hbk : Blk W g cur e := h3
    have hf := flat_get css h.sz i hic j hjs
    rw [hj, ← h7, List.getElem?_take] at hf
    rw [hbk.cell, Nat.zero_add]
    split at hf
    · rw [← hf]; simp
    · cases hf
theorem flat_len2 {sz : Nat} : ∀ (css : List (List Value)), (∀ cs ∈ css, cs.length = sz) → css.flatten.length = css.length * sz
  | [], _ => by simp
  | c :: css, hs => by
    rw [List.flatten_cons, List.length_append, flat_len2 css (fun cs hc => hs cs (List.mem_cons_of_mem _ hc)), hs c (List.mem_cons_self ..), List.length_cons, Nat.add_mul]; omega
/-- Where things that are appended come from. -/
def Srcs (a : Option Addr) (m : Nat) (news : List Value) (W : World) : Prop := (a = none ∧ m = 0 ∧ news = []) ∨ ∃ ad, a = some ad ∧ ∀ j u, news[j]? = some u → W.cell? (ad.add j) = some u
theorem run_append_noneC {P : Program} {w : World} (base : Nat) (t ty e : TypeId) (i : TypeInfo) (size c : Nat) (ht : P.underlying t = some (.slice e)) (hi : P.info? e = some i)
    (v : Value) (n : Nat) (xs : List Value) (hown : w.ownsRow base e size v n xs) :
    (Builtin.append_ #[t, t] ty #[v, .slice none 0 c]).run P w = .ok v w := by
  rcases hown.2 with ⟨rfl, rfl⟩ | ⟨g, cap, cur, rfl, _, _, hnc, _⟩
  · simp [Builtin.append_, run_underlying ht, sizeOf, typeInfo, hi, Builtin.lenOf, Builtin.firstCells]
  · simp [Builtin.append_, run_underlying ht, sizeOf, typeInfo, hi, Builtin.lenOf, Builtin.firstCells, hnc, storeCells]
theorem wpList_append_src {P : Program} {w : World} {ops : Array Oper} {rest : List Oper} {o : Oper} {a : Act} {Q : Exit → Act → World → Prop} (hgd : o.guard = none) (s x : Operand) (t : TypeId)
    (ho : o.op = .call { callee := .builtin .append, args := #[s, x], argTypes := #[t, t] })
    (base : Nat) (e : TypeId) (i : TypeInfo) (z : Value) (size bytes : Nat) (ht : P.underlying t = some (.slice e)) (hi : P.info? e = some i) (hz : i.zero = some z)
    (hsize : i.size = size) (hby : i.bytes = bytes) (hzs : z.cells.size = size) (hsz : 0 < size)
    (v : Value) (n : Nat) (xs : List Value) (hs : a.eval s = v) (hown : w.ownsRow base e size v n xs)
    (ax : Option Addr) (m cx : Nat) (news : List Value) (hx : a.eval x = .slice ax m cx) (hsrc : Srcs ax m news w) (hl : news.length = m * size) (h1 : ∀ u ∈ news, u.oneCell' = true)
    (h63 : n + m ≤ maxLen) (hbytes : (n + m) * bytes ≤ 140737488355328) (hbase : base ≤ w.heap.size)
    (h : ∀ v' w', w'.ownsRow base e size v' (n + m) (xs ++ news) → w.grownBy w' v.ownBlock → wpList P ops Q rest (a.put o.dst v') w') : wpList P ops Q (o :: rest) a w := by
  rcases hsrc with ⟨rfl, rfl, rfl⟩ | ⟨ad, rfl, hc⟩
  · refine wpList_plain hgd fun K hK => ?_
    have hrun := run_append_noneC (P := P) (w := w) base t o.type e i size cx ht hi v n xs hown
    unfold Oper.wp
    simp [execOp, ho, resolve, invoke, builtin, hs, hx, hrun, Result.andThen]
    refine hK _ _ (h v w ?_ (World.grownBy.refl _ _))
    rw [List.append_nil, Nat.add_zero]; exact hown
  · exact wpList_append_own w hgd s x t ho base e i z size bytes ht hi hz hsize hby hzs hsz v n xs hs hown ad m cx news hx hl hc h1 h63 hbytes hbase (fun v' w' a1 a2 _ => h v' w' a1 a2)
theorem Row.srcs {α : Type} {At : α → Nat → Nat → World → Prop} {sz : Nat} {l : List α} {a : Option Addr} {W : World} (h : Row At sz l a W) (css : List (List Value)) (hlen : css.length = l.length) (hs : ∀ cs ∈ css, cs.length = sz) (hsz : 0 < sz)
    (hc : ∀ i (h1 : i < css.length) (h2 : i < l.length) b o, At l[i] b o W → CellsAt css[i] b o W) : Srcs a l.length css.flatten W := by
  by_cases hn : l = []
  · subst hn
    have : css = [] := List.eq_nil_of_length_eq_zero hlen
    subst this
    cases a with
    | none => exact Or.inl ⟨rfl, rfl, rfl⟩
    | some ad => exact Or.inr ⟨ad, rfl, fun j u hj => by simp at hj⟩
  · obtain ⟨b, o, rfl, hb, hat⟩ := h.2 hn
    refine Or.inr ⟨_, rfl, fun j u hj => ?_⟩
    have hjl : j < css.length * sz := by
      have := (List.getElem?_eq_some_iff.1 hj).1
      rwa [flat_len2 css hs] at this
    have hi : j / sz < css.length := (Nat.div_lt_iff_lt_mul hsz).2 hjl
    have hjm : j % sz < sz := Nat.mod_lt _ hsz
    have hf := flat_get css hs (j / sz) hi (j % sz) hjm
    rw [show j / sz * sz + j % sz = j by rw [Nat.mul_comm]; exact Nat.div_add_mod j sz, hj] at hf
    have := hc (j / sz) hi (by omega) b (o + j / sz * sz) (hat (j / sz) (by omega)) (j % sz) u hf.symm
    rw [show (⟨b, o, none⟩ : Addr).add j = ⟨b, o + j, none⟩ by unfold Addr.add; split <;> simp_all]
    rw [Nat.add_assoc, show j / sz * sz + j % sz = j by rw [Nat.mul_comm]; exact Nat.div_add_mod j sz] at this
    exact this
end Go.Proofs.Ytalicfpcmcbdbaa

set_option linter.unusedVariables false
set_option linter.unusedSimpArgs false
set_option linter.unnecessarySimpa false
set_option linter.deprecated false
namespace Go.Proofs.Ytalicfpcmcbdbaa
open Go.RowKit

theorem info96 : (Try.prog.info? 96).map (fun i => (i.zero, i.size, i.bytes)) = some (some (.agg #[.int .i64 0, .string ⟨#[]⟩, .int .i64 0, .slice none 0 0]), 4, 56) := by kernel_rfl
mutual
/-- An item whose cells, and what they lead to, are one's own, in blocks of which P holds. -/
def EIt (P : Nat → Prop) : It → List Value → World → Prop
  | .mk k t n l, cs, W => ∃ v css, cs = [.int .i64 k, .string t, .int .i64 n, v] ∧ i64 k ∧ short t ∧ i64 n ∧ (W.ownsRow 0 96 4 v css.length css.flatten ∧ ∀ g, v.ownBlock = some g → P g) ∧ css.length = l.length ∧ (∀ c ∈ css, c.length = 4) ∧ EIts P l css W
def EIts (P : Nat → Prop) : List It → List (List Value) → World → Prop
  | [], _, _ => True
  | x :: xs, css, W => EIt P x (css.headD []) W ∧ EIts P xs css.tail W
end
theorem EIts_iff (P : Nat → Prop) : ∀ (l : List It) (css : List (List Value)) (W : World), css.length = l.length → (EIts P l css W ↔ ∀ i (h : i < css.length) (h2 : i < l.length), EIt P l[i] css[i] W)
  | [], css, W, _ => by rw [EIts]; simp
  | x :: xs, [], W, h => by simp at h
  | x :: xs, c :: cs, W, h => by
    rw [EIts]
    have ih := EIts_iff P xs cs W (by simpa using h)
    simp only [List.headD_cons, List.tail_cons]
    rw [ih]
    constructor
    · rintro ⟨h0, h1⟩ i hi hi2
      cases i with
      | zero => exact h0
      | succ i => exact h1 i (by simpa using hi) (by simpa using hi2)
    · intro h3
      exact ⟨h3 0 (by simp) (by simp), fun i hi hi2 => h3 (i + 1) (by simpa using hi) (by simpa using hi2)⟩
theorem EIt_iff (P : Nat → Prop) (x : It) (cs : List Value) (W : World) : EIt P x cs W ↔ ∃ v css, cs = [.int .i64 x.kind, .string x.text, .int .i64 x.num, v] ∧ i64 x.kind ∧ short x.text ∧ i64 x.num ∧ OwnE (EIt P) 0 96 4 x.kids v css W ∧ ∀ g, v.ownBlock = some g → P g := by
  obtain ⟨k, t, n, l⟩ := x
  rw [EIt]
  simp only [It.kind, It.text, It.num, It.kids]
  constructor
  · rintro ⟨v, css, h1, h2, h3, h4, h5, h6, h7, h8⟩
    exact ⟨v, css, h1, h2, h3, h4, ⟨h5.1, h6, h7, (EIts_iff P l css W h6).1 h8⟩, h5.2⟩
  · rintro ⟨v, css, h1, h2, h3, h4, h5, h6⟩
    exact ⟨v, css, h1, h2, h3, h4, ⟨h5.own, h6⟩, h5.len, h5.sz, (EIts_iff P l css W h5.len).2 h5.each⟩
/-- A row of one's own stays where its block does. -/
theorem own_same {W W' : World} {B B' n size : Nat} {e : TypeId} {v : Value} {xs : List Value} (h : W.ownsRow B e size v n xs) (hk : ∀ g c, v.ownBlock = some g → Blk W g c e → Blk W' g c e) : W'.ownsRow B e size v n xs := by
  refine ⟨h.1, ?_⟩
  rcases h.2 with h2 | ⟨g, cap, cur, rfl, h3, h4, h5⟩
  · exact Or.inl h2
  · exact Or.inr ⟨g, cap, cur, rfl, h3, hk g cur rfl h4, h5⟩
theorem own_lt {W : World} {B n size : Nat} {e : TypeId} {v : Value} {xs : List Value} (h : W.ownsRow B e size v n xs) : ∀ g, v.ownBlock = some g → g < W.heap.size := by
  intro g hg
  rcases h.2 with ⟨rfl, _⟩ | ⟨g', cap, cur, rfl, _, h4, _⟩
  · cases hg
  · simp only [Value.ownBlock, Option.some.injEq] at hg
    subst hg
    exact (Array.getElem?_eq_some_iff.1 h4).1
mutual
theorem EIt.keep : ∀ (x : It) {P P' : Nat → Prop} (cs : List Value) (W W' : World), (∀ g c, P g → Blk W g c 96 → Blk W' g c 96) → (∀ g, g < W.heap.size → P g → P' g) → EIt P x cs W → EIt P' x cs W'
  | .mk k t n l, P, P', cs, W, W', hk, hp, h => by
    rw [EIt] at h ⊢
    obtain ⟨v, css, h1, h2, h3, h4, h5, h6, h7, h8⟩ := h
    exact ⟨v, css, h1, h2, h3, h4, ⟨own_same (B' := 0) h5.1 (fun g c hg hb => hk g c (h5.2 g hg) hb), fun g hg => hp g (own_lt h5.1 g hg) (h5.2 g hg)⟩, h6, h7, EIts.keep l css W W' hk hp h8⟩
theorem EIts.keep : ∀ (l : List It) {P P' : Nat → Prop} (css : List (List Value)) (W W' : World), (∀ g c, P g → Blk W g c 96 → Blk W' g c 96) → (∀ g, g < W.heap.size → P g → P' g) → EIts P l css W → EIts P' l css W'
  | [], _, _, css, W, W', _, _, _ => by rw [EIts]; trivial
  | x :: xs, _, _, css, W, W', hk, hp, h => by
    rw [EIts] at h ⊢
    exact ⟨EIt.keep x _ W W' hk hp h.1, EIts.keep xs _ W W' hk hp h.2⟩
end
/-- All lists of items are such as can be copied. -/
inductive FitI : It → Prop where
  | mk (x : It) (h : x.kids.length * 56 ≤ 140737488351232) (hk : ∀ y ∈ x.kids, FitI y) : FitI x
def FitIs (l : List It) : Prop := l.length * 56 ≤ 140737488351232 ∧ ∀ y ∈ l, FitI y
theorem FitI.kids {x : It} (h : FitI x) : FitIs x.kids := by cases h with | mk _ h1 h2 => exact ⟨h1, h2⟩
theorem EIt_at (P : Nat → Prop) : ∀ (N : Nat) (x : It), SizeOf.sizeOf x < N → FitI x → ∀ (cs : List Value) (b o : Nat) (W : World), EIt P x cs W → CellsAt cs b o W → ItAt x b o W := by
  intro N
  induction N with
  | zero => intro x h; exact absurd h (Nat.not_lt_zero _)
  | succ N ih =>
    intro x hN hf cs b o W he hc
    obtain ⟨v, css, rfl, h1, h2, h3, ho, _⟩ := (EIt_iff P x cs W).1 he
    have hf2 := hf.kids
    obtain ⟨a, c, rfl, hr, _⟩ := ho.row (At := ItAt) (fun y hy cs b o he hc => ih y (by
      have h1 := sizeOf_kids x
      have h2 := List.sizeOf_lt_of_mem hy
      omega) (hf2.2 y hy) cs b o W he hc) (by have := hf2.1; omega)
    exact (itAt_iff x b o W).2 ⟨h1, h2, h3, a, c, hc, hr⟩
theorem items_row {P : Nat → Prop} {l : List It} {B : Nat} {v : Value} {css : List (List Value)} {W : World} (ho : OwnE (EIt P) B 96 4 l v css W) (hf : FitIs l) : ∃ a c, v = .slice a l.length c ∧ Row ItAt 4 l a W ∧ l.length ≤ c :=
  ho.row (fun y hy cs b o he hc => EIt_at P _ y (Nat.lt_succ_self _) (hf.2 y hy) cs b o W he hc) (by have := hf.1; omega)
set_option maxHeartbeats 800000 in
set_option maxRecDepth 100000 in
theorem copyItems_all : ∀ (N : Nat) (l : List It), SizeOf.sizeOf l < N → FitIs l → ∀ (a : Option Addr) (c : Nat) (w : World), Row ItAt 4 l a w →
    Calls Try.prog 33 #[.slice a l.length c] w fun e w' => ∃ v css, e = .returned v ∧ OwnE (EIt (fun g => w.heap.size ≤ g)) w.heap.size 96 4 l v css w' ∧ Below w.heap.size w w' := by
  intro N
  induction N with
  | zero => intro l h; exact absurd h (Nat.not_lt_zero _)
  | succ N ih =>
    intro l hN hfit a c w hr
    obtain ⟨i0, hi, hz0, hz1, hz2⟩ := info_parts info96
    have HR := hide hr
    have HN := hide hN
    have IH := hide ih
    have HFT := hide hfit
    have hln := hr.1
    have hfl := hfit.1
    clear hr hN ih hfit
    go_enter Try.func33, Try.ntmps33
    go_wp2_with fail
    go_loopg [3, 4] l.length (fun u v3 v4 wr => ∃ (k : Nat) (css : List (List Value)), Hid (u = l.length - k) ∧ v4 = .int .i64 (k : Int) ∧ Hid (k ≤ l.length ∧ Below w.heap.size w wr ∧ OwnE (EIt (fun g => w.heap.size ≤ g ∧ v3.ownBlock ≠ some g)) w.heap.size 96 4 (l.take k) v3 css wr))
    case atStart => exact ⟨0, [], hide rfl, rfl, hide ⟨Nat.zero_le _, Below.refl _ _, OwnE.nil _ _ _ _⟩⟩
    case round =>
      obtain ⟨k, css, hu, rfl, hh⟩ := hrel
      have hkl := hh.out.1
      by_cases hlt : k < l.length
      · have hlti : (k : Int) < (l.length : Int) := by omega
        obtain ⟨b, o, rfl, hb, hat⟩ := (HR.out.below ItAt.stable hh.out.2.1).get hlt
        have hx := hat k hlt
        have HTK := hide (take_snoc l k hlt)
        have hsz : SizeOf.sizeOf l[k].kids < N := by
          have h1 := sizeOf_kids l[k]
          have h2 := List.sizeOf_lt_of_mem (List.getElem_mem hlt)
          have := HN.out
          omega
        have HFX := hide (HFT.out.2 _ (List.getElem_mem hlt))
        generalize l[k] = x at hx hsz HTK HFX
        clear hat
        obtain ⟨kd, t, n, kids⟩ := x
        obtain ⟨⟨hk1, ht1, hn1⟩, ak, ck, ⟨e0, e1, e2, e3⟩, hrow⟩ := hx.cells
        replace e0 : wr.cell? ⟨b, o + k * 4, none⟩ = some (.int .i64 kd) := e0
        replace e1 : wr.cell? ⟨b, o + k * 4 + 1, none⟩ = some (.string t) := e1
        replace e2 : wr.cell? ⟨b, o + k * 4 + 2, none⟩ = some (.int .i64 n) := e2
        replace e3 : wr.cell? ⟨b, o + k * 4 + 3, none⟩ = some (.slice ak kids.length ck) := e3
        replace hsz : SizeOf.sizeOf kids < N := hsz
        have HK1 := hide (show i64 kd from hk1)
        have HT1 := hide (show short t from ht1)
        have HN1 := hide (show i64 n from hn1)
        have hrow' : Row ItAt 4 kids ak wr := hrow
        have hkl2 := hrow'.1
        have HBA := hide (NB.alloc (Below.refl wr.heap.size wr) (.cells #[.int .i64 kd, .string t, .int .i64 n, .slice ak kids.length ck] 96))
        have HXA := hide (Blk.new wr #[.int .i64 kd, .string t, .int .i64 n, .slice ak kids.length ck] 96)
        have HC := hide (IH.out kids hsz HFX.out.kids ak ck (wr.alloc (.cells #[.int .i64 kd, .string t, .int .i64 n, .slice ak kids.length ck] 96)) (hrow'.below ItAt.stable HBA.out))
        have HH := hide hh.out
        have hbs := hh.out.2.1.size
        have hcl : css.length + 1 ≤ l.length := by rw [hh.out.2.2.len, List.length_take]; omega
        clear hx hrow hrow' hsz hk1 ht1 hn1 hh
        go_upto_region 6 with fail
        obtain ⟨ks, hks⟩ : ∃ ks, wr.heap.size = ks := ⟨_, rfl⟩
        obtain ⟨wa, hwa⟩ : ∃ wa, wr.alloc (.cells #[.int .i64 kd, .string t, .int .i64 n, .slice ak kids.length ck] 96) = wa := ⟨_, rfl⟩
        have HWS := hide (show wa.heap.size = ks + 1 by rw [← hwa, ← hks]; simp)
        rw [hwa] at HBA HXA HC ⊢
        rw [hks] at HXA ⊢
        have HKS := hide hks
        clear hwa hks e0 e1 e2 e3 hb
        have x3 := HXA.out.cell 3
        have xl := HXA.out.lt
        go_wp2_with fail
        refine HC.out.mono ?_
        rintro e w5 ⟨vk, cssk, rfl, hok, hb5⟩
        obtain ⟨a9, c9, hvk, _⟩ := own_shape hok.own
        have HVK := hide hvk
        have HX5 := hide (HXA.out.below hb5)
        have HB5 := hide (below_next HBA.out hb5)
        have HOK := hide hok
        clear x3 xl hok hb5
        subst hvk
        have x3 := HX5.out.cell 3
        have xl := HX5.out.lt
        have xf := HX5.out.free 3
        go_upto_region 7 with fail
        have HX6 := hide (HX5.out.set 3 (.slice a9 cssk.length c9))
        have HB6 := hide (HB5.out.setCell (by have := HKS.out; simp only; omega) (.slice a9 cssk.length c9) : Below wr.heap.size wr (w5.setCell ⟨ks, 3, none⟩ (.slice a9 cssk.length c9)))
        have HO6 := hide (HH.out.2.2.keep (own_below HH.out.2.2.own HB6.out) (fun x cs he => EIt.keep x cs wr _ (fun g c _ hb => hb.below HB6.out) (fun _ _ h => h) he))
        have HE6 := hide (show EIt (fun g => w.heap.size ≤ g ∧ u3.ownBlock ≠ some g) (.mk kd t n kids) [.int .i64 kd, .string t, .int .i64 n, .slice a9 cssk.length c9] (w5.setCell ⟨ks, 3, none⟩ (.slice a9 cssk.length c9)) from by
          have hps : ∀ g, wa.heap.size ≤ g → g ≠ ks := fun g hg => by have := HWS.out; omega
          have hpp : ∀ g, wa.heap.size ≤ g → w.heap.size ≤ g ∧ u3.ownBlock ≠ some g := fun g hg => by
            refine ⟨by have := HWS.out; have := HKS.out; omega, fun e1 => ?_⟩
            have := own_lt HH.out.2.2.own g e1
            have := HWS.out; have := HKS.out; omega
          refine (EIt_iff _ (.mk kd t n kids) _ _).2 ⟨_, cssk, rfl, HK1.out, HT1.out, HN1.out, (HOK.out.base (Nat.zero_le _)).keep (own_base (own_same (B' := 0) HOK.out.own (fun g c hg hb => hb.other (hps g (own_block_ge HOK.out.own g hg)))) (Nat.zero_le _)) (fun x cs he => EIt.keep x cs w5 _ (fun g c hg hb => hb.other (hps g hg)) (fun g _ hg => hpp g hg) he), fun g hg => hpp g (own_block_ge HOK.out.own g hg)⟩)
        clear x3 xl xf HX5 HB5 HOK HC HXA HBA
        generalize w5.setCell ⟨ks, 3, none⟩ (.slice a9 cssk.length c9) = w6 at HX6 HB6 HO6 HE6 ⊢
        have x0 := HX6.out.cell 0
        have x1 := HX6.out.cell 1
        have x2 := HX6.out.cell 2
        have x3 := HX6.out.cell 3
        have xl := HX6.out.lt
        have hb6 := HB6.out.size
        have HPU := hide (fun v' w8 (ho : World.ownsRow w8 w.heap.size 96 4 v' (css.length + 1) (css.flatten ++ [.int .i64 kd, .string t, .int .i64 n, .slice a9 cssk.length c9])) (hg : (w6.alloc (.cells #[.int .i64 kd, .string t, .int .i64 n, .slice a9 cssk.length c9] 96)).grownBy w8 u3.ownBlock) (hat : v'.ownBlock = u3.ownBlock ∨ v'.ownBlock = some (w6.heap.size + 1)) => (show OwnE (EIt (fun g => w.heap.size ≤ g ∧ v'.ownBlock ≠ some g)) w.heap.size 96 4 (l.take k ++ [.mk kd t n kids]) v' (css ++ [[.int .i64 kd, .string t, .int .i64 n, .slice a9 cssk.length c9]]) w8 from
          HO6.out.pushG ho rfl rfl (fun x cs he => EIt.keep x cs w6 w8 (fun g c hp hb => (hb.alloc _).grown hg (fun e => hp.2 e.symm)) (fun g hlt hp => ⟨hp.1, fun e1 => by
            rcases hat with e | e
            · rw [e] at e1; exact hp.2 e1
            · rw [e] at e1; injection e1 with e1; rw [← e1] at hlt; omega⟩) he) HE6.out))
        go_wp2_with (at_builtin; refine wpList_append_own_at _ rfl _ _ 51 rfl w.heap.size 96 i0 _ 4 56 Try.underlying51 hi hz0 hz1 hz2 rfl (by decide) _ _ css.flatten rfl (HO6.out.own.alloc _) ⟨w6.heap.size, 0, none⟩ 1 1 [.int .i64 kd, .string t, .int .i64 n, .slice a9 cssk.length c9] rfl rfl ?d1 ?d2 ?d3 ?d4 ?d5 ?_)
        case d1 => exact cells_at _ _ _ _ rfl
        case d2 => first | (intro y hy; simp at hy; rcases hy with rfl | rfl | rfl | rfl <;> rfl) | rfl
        case d3 => unfold maxLen; omega
        case d4 => omega
        case d5 => simp; omega
        intro v' w8 ho8 hg8 _ hat8
        have HN8 := hide (HPU.out v' w8 ho8 hg8 hat8)
        have HB8 := hide (show Below w.heap.size w w8 from by
          have h1 := (below_next HH.out.2.1 HB6.out).alloc (by have := (below_next HH.out.2.1 HB6.out).size; exact this) (.cells #[.int .i64 kd, .string t, .int .i64 n, .slice a9 cssk.length c9] 96)
          exact h1.grown hg8 h1.size (fun g hg => own_block_ge HO6.out.own g hg))
        clear ho8 hg8 hat8 x0 x1 x2 x3 xl
        go_wp2_with fail
        go_roundg (l.length - (k + 1))
        case measure => rw [hu.out]; omega
        case rel => exact ⟨k + 1, _, hide rfl, by go_num, hide ⟨hlt, HB8.out, by rw [HTK.out]; exact HN8.out⟩⟩
      · have hlti : ¬ (k : Int) < (l.length : Int) := by omega
        have HO := hide hh.out.2.2
        rw [List.take_of_length_le (by omega)] at HO
        go_wp2_with fail
        go_ret
        exact ⟨_, rfl, ⟨css, HO.out.keep HO.out.own (fun x cs he => EIt.keep (P' := fun g => w.heap.size ≤ g) x cs wr wr (fun _ _ _ h => h) (fun g _ h => h.1) he)⟩, hh.out.2.1⟩
end Go.Proofs.Ytalicfpcmcbdbaa
