/- The walk of CheckWhole. -/
import Derived.Test.YtalicfpcmcbdbaaZOkD
import Derived.Test.YtalicfpcmcbdbaaZInL
import Derived.Test.YtalicfpcmcbdbaaZLexF
import Derived.Test.YtalicfpcmcbdbaaZAlive
import Derived.Test.YtalicfpcmcbdbaaZParts
import Derived.Deep.RegionHeld3
import Derived.StillTailTactics
import Derived.BigQuiet
set_option linter.unusedVariables false
set_option linter.unusedSimpArgs false
set_option linter.unnecessarySimpa false
set_option linter.deprecated false
namespace Go.Proofs.Ytalicfpcmcbdbaa
open Go.RowKit

theorem lexL_len (d : Df) : (lexL d).length ≤ d.prods.length := by
  unfold lexL
  exact Nat.le_trans (List.length_filter_le _ _) (sortsL_len d.prods)
theorem lexL_mem {d : Df} {s : ByteArray} : s ∈ lexL d ↔ s ∈ sortsL d.prods ∧ isLex d.prods s true = true := by
  unfold lexL; rw [List.mem_filter]
theorem isLex_iff {l : List Pd} {s : ByteArray} {b : Bool} : isLex l s b = true ↔ ∃ p ∈ l, p.sort = s ∧ p.lex = b := by
  unfold isLex
  rw [List.any_eq_true]
  simp only [Bool.and_eq_true, decide_eq_true_eq, beq_iff_eq]
theorem lexOf_ne {l : List Pd} {s : ByteArray} (h : lexOf l s ≠ 0) : s ∈ sortsL l := by
  rcases lexOf_cases l s with ⟨h1, _⟩ | ⟨h1, _⟩
  · exact absurd h1 h
  · exact h1
theorem OkD.name {d : Df} (h : OkD d) {p : Pd} (hp : p ∈ d.prods) {s : Sy} (hs : s ∈ p.syms) (he : emp s.name = false) : inB s.name (sortsL d.prods) = true := by
  refine (inB_iff _ _).2 (lexOf_ne (h.undef s.name ?_))
  unfold usedL
  refine List.mem_append_left _ (List.mem_append_left _ (List.mem_flatMap.2 ⟨p, hp, ?_⟩))
  unfold namesL namesOf
  exact List.mem_map.2 ⟨s, List.mem_filter.2 ⟨hs, by rw [he]; rfl⟩, rfl⟩
theorem OkD.lexName {d : Df} (h : OkD d) {p : Pd} (hp : p ∈ d.prods) {s : Sy} (hs : s ∈ p.syms) (he : emp s.name = false) (hl : p.lex = true) : inB s.name (lexL d) = true := by
  refine (inB_iff _ _).2 (lexL_mem.2 ⟨(inB_iff _ _).1 (h.name hp hs he), ?_⟩)
  have hk := h.kind p hp
  unfold kindB at hk
  rw [List.any_eq_false] at hk
  have := hk s hs
  unfold kindS at this
  rw [if_pos hl] at this
  simp [he] at this
  exact this.2
/-- How many of these symbols may not be left out. -/
def mustN (l : List Sy) : Nat := (l.filter (fun s => !leftB s)).length
theorem mustN_snoc (l : List Sy) (s : Sy) : mustN (l ++ [s]) = mustN l + (if leftB s = true then 0 else 1) := by
  unfold mustN
  rw [List.filter_append, List.length_append]
  cases h : leftB s <;> simp [h]
theorem OkD.must {d : Df} (h : OkD d) {p : Pd} (hp : p ∈ d.prods) : mustN p.syms ≠ 0 := by
  intro e
  have hn := h.null p hp
  unfold nullB at hn
  rw [Bool.or_eq_false_iff] at hn
  have h2 : p.syms.all leftB = true := by
    rw [List.all_eq_true]
    intro s hs
    cases hl : leftB s
    · unfold mustN at e
      have := List.length_eq_zero_iff.1 e
      have hm : s ∈ p.syms.filter (fun s => !leftB s) := List.mem_filter.2 ⟨hs, by rw [hl]; rfl⟩
      rw [this] at hm
      cases hm
    · rfl
  rw [h2] at hn
  exact absurd hn.2 (by decide)
theorem OkD.lexEq {d : Df} (h : OkD d) {p : Pd} (hp : p ∈ d.prods) : inB p.sort (lexL d) = p.lex := by
  have hs : p.sort ∈ sortsL d.prods := (mem_sortsL _ _).2 ⟨p, hp, rfl⟩
  have hm := h.mixed _ hs
  rw [Bool.eq_iff_iff, inB_iff, lexL_mem]
  constructor
  · rintro ⟨_, h1⟩
    cases hl : p.lex
    · exfalso
      apply hm
      have h2 : isLex d.prods p.sort false = true := isLex_iff.2 ⟨p, hp, rfl, hl⟩
      unfold lexOf
      rw [h1, h2]; rfl
    · rfl
  · intro hl
    exact ⟨hs, isLex_iff.2 ⟨p, hp, rfl, hl⟩⟩
theorem OkD.starts {d : Df} (h : OkD d) : inB d.start (sortsL d.prods) = true ∧ inB d.start (lexL d) = false := by
  have h2 := h.start
  refine ⟨(inB_iff _ _).2 (lexOf_ne (by rw [h2]; decide)), ?_⟩
  cases hi : inB d.start (lexL d)
  · rfl
  · exfalso
    have h3 := (lexL_mem.1 ((inB_iff _ _).1 hi)).2
    unfold lexOf at h2
    rw [h3] at h2
    cases hj : isLex d.prods d.start false <;> rw [hj] at h2 <;> exact absurd h2 (by decide)
theorem OkD.lay {d : Df} (h : OkD d) (he : emp d.layout = false) : inB d.layout (lexL d) = true := by
  have h1 : lexOf d.prods d.layout = 1 := h.layout.resolve_left (by rw [he]; decide)
  refine (inB_iff _ _).2 (lexL_mem.2 ⟨lexOf_ne (by rw [h1]; decide), ?_⟩)
  unfold lexOf at h1
  cases hi : isLex d.prods d.layout true
  · rw [hi] at h1
    cases hj : isLex d.prods d.layout false <;> rw [hj] at h1 <;> exact absurd h1 (by decide)
  · rfl
set_option maxHeartbeats 1600000 in
set_option maxRecDepth 100000 in
theorem lawWhole_any (d : Df) (a2 : Option Addr) (c2 : Nat) (a3 : Option Addr) (c3 : Nat) (a4 : Option Addr) (c4 : Nat) (a5 : Option Addr) (c5 : Nat) (a6 : Option Addr) (c6 : Nat) (w : World) (hd : RD d ⟨a2, c2, a3, c3, a4, c4, a5, c5, a6, c6⟩ w) : Calls Try.prog 9 #[.agg #[.string d.start, .string d.layout, .slice a2 d.prods.length c2, .slice a3 d.chains.length c3, .slice a4 d.follows.length c4, .slice a5 d.rejects.length c5, .slice a6 d.boxes.length c6]] w fun e w' => e = .returned (.bool true) ∧ Below w.heap.size w w' := by
  have HB0 := hide ((Below.refl w.heap.size w).alloc (Nat.le_refl _) (.cells #[.string d.start, .string d.layout, .slice a2 d.prods.length c2, .slice a3 d.chains.length c3, .slice a4 d.follows.length c4, .slice a5 d.rejects.length c5, .slice a6 d.boxes.length c6] 28))
  have HX0 := hide (Blk.new w #[.string d.start, .string d.layout, .slice a2 d.prods.length c2, .slice a3 d.chains.length c3, .slice a4 d.follows.length c4, .slice a5 d.rejects.length c5, .slice a6 d.boxes.length c6] 28)
  have HD := hide (hd.below HB0.out)
  have hl2 := hd.p.1
  clear hd
  go_enter Try.func9, Try.ntmps9
  go_upto_region 1 with fail
  obtain ⟨kx, hkx⟩ : ∃ kx, w.heap.size = kx := ⟨_, rfl⟩
  obtain ⟨w0, h1⟩ : ∃ w1, w.alloc (.cells #[.string d.start, .string d.layout, .slice a2 d.prods.length c2, .slice a3 d.chains.length c3, .slice a4 d.follows.length c4, .slice a5 d.rejects.length c5, .slice a6 d.boxes.length c6] 28) = w1 := ⟨_, rfl⟩
  rw [h1] at HD HB0 HX0 ⊢
  rw [hkx] at HX0 ⊢
  clear h1 hkx
  have x0 := HX0.out.cell 0
  have x1 := HX0.out.cell 1
  have x2 := HX0.out.cell 2
  have x3 := HX0.out.cell 3
  have x4 := HX0.out.cell 4
  have x5 := HX0.out.cell 5
  have x6 := HX0.out.cell 6
  have xl := HX0.out.lt
  have HHV := hide (heavy_any d a2 c2 a3 c3 a4 c4 a5 c5 a6 c6 w0 HD.out)
  go_wp2_with fail
  refine HHV.out.mono ?_
  rintro e w1 ⟨⟨hv, rfl, hsm⟩, hb1⟩
  have HB1 := hide (below_next HB0.out hb1)
  have HX1 := hide (HX0.out.below hb1)
  have HD1 := hide (HD.out.below hb1)
  clear HX0 HD HHV HB0 hb1 x0 x1 x2 x3 x4 x5 x6 xl
  clear w0
  cases hv with
  | true =>
    have HC := hide (alive_any w1)
    clear hsm
    go_wp2_with fail
    refine HC.out.mono ?_
    rintro e w2 ⟨rfl, hb2⟩
    have HB2 := hide (below_next HB1.out hb2)
    clear hb2
    go_wp2_with fail
    go_ret
    exact ⟨rfl, HB2.out⟩
  | false =>
    have HSM := hide (tot_small (hsm rfl))
    clear hsm
    have HCK1 := hide (Check_any d a2 c2 a3 c3 a4 c4 a5 c5 a6 c6 w1 HD1.out HSM.out)
    obtain ⟨z1, n1, hz1⟩ : ∃ z1 n1, checkL d = (z1, n1) := ⟨_, _, rfl⟩
    have HZ1 := hide (show z1 = 0 ↔ OkD d by rw [← check_ok, hz1])
    rw [hz1] at HCK1
    clear hz1
    have x0 := HX1.out.cell 0
    have x1 := HX1.out.cell 1
    have x2 := HX1.out.cell 2
    have x3 := HX1.out.cell 3
    have x4 := HX1.out.cell 4
    have x5 := HX1.out.cell 5
    have x6 := HX1.out.cell 6
    have xl := HX1.out.lt
    go_wp2_with fail
    refine HCK1.out.mono ?_
    rintro e w2 ⟨rfl, hb2⟩
    have HX2 := hide (HX1.out.below hb2)
    have HD2 := hide (HD1.out.below hb2)
    have HB2 := hide (below_next HB1.out hb2)
    clear hb2 x0 x1 x2 x3 x4 x5 x6 xl HX1 HD1 HCK1 HB1
    by_cases hz : z1 = 0
    case neg =>
      have hz1 : (z1 == 0) = false := by simpa using hz
      have hz1n : (!z1 == 0) = true := by rw [hz1]; rfl
      have HAL := hide (alive_any w2)
      go_wp2_with fail
      refine HAL.out.mono ?_
      rintro e w7 ⟨rfl, hb7⟩
      go_wp2_with fail
      go_ret
      exact ⟨rfl, below_next HB2.out hb7⟩
    have HOK := hide (HZ1.out.1 hz)
    subst hz
    clear HZ1 w1
    go_upto_region 6 with fail
    have HS := hide (fun (W : World) (h : Below w2.heap.size w2 W) => (show (Hid (Below w2.heap.size w2 W) ∧ kx < W.heap.size ∧ W.cell? ⟨kx, 0, none⟩ = some (.string d.start) ∧ W.cell? ⟨kx, 1, none⟩ = some (.string d.layout) ∧ W.cell? ⟨kx, 2, none⟩ = some (.slice a2 d.prods.length c2) ∧ W.cell? ⟨kx, 3, none⟩ = some (.slice a3 d.chains.length c3) ∧ W.cell? ⟨kx, 4, none⟩ = some (.slice a4 d.follows.length c4) ∧ W.cell? ⟨kx, 5, none⟩ = some (.slice a5 d.rejects.length c5) ∧ W.cell? ⟨kx, 6, none⟩ = some (.slice a6 d.boxes.length c6)) from
      have q := HX2.out.below h
      ⟨hide h, q.lt, q.cell 0, q.cell 1, q.cell 2, q.cell 3, q.cell 4, q.cell 5, q.cell 6⟩))
    have HSO := hide (fun (W : World) (h : Hid (Below w2.heap.size w2 W)) => (show Calls Try.prog 22 #[.agg #[.string d.start, .string d.layout, .slice a2 d.prods.length c2, .slice a3 d.chains.length c3, .slice a4 d.follows.length c4, .slice a5 d.rejects.length c5, .slice a6 d.boxes.length c6]] W fun e W' => ∃ a c, e = .returned (.slice a (sortsL d.prods).length c) ∧ Hid (Row StrAt 1 (sortsL d.prods) a W' ∧ Below W.heap.size W W') ∧ (fun W => (Hid (Below w2.heap.size w2 W) ∧ kx < W.heap.size ∧ W.cell? ⟨kx, 0, none⟩ = some (.string d.start) ∧ W.cell? ⟨kx, 1, none⟩ = some (.string d.layout) ∧ W.cell? ⟨kx, 2, none⟩ = some (.slice a2 d.prods.length c2) ∧ W.cell? ⟨kx, 3, none⟩ = some (.slice a3 d.chains.length c3) ∧ W.cell? ⟨kx, 4, none⟩ = some (.slice a4 d.follows.length c4) ∧ W.cell? ⟨kx, 5, none⟩ = some (.slice a5 d.rejects.length c5) ∧ W.cell? ⟨kx, 6, none⟩ = some (.slice a6 d.boxes.length c6))) W' from (sorts_any d a2 c2 a3 c3 a4 c4 a5 c5 a6 c6 W (HD2.out.below h.out) HSM.out.pl5).mono (fun e W' hh => by
      obtain ⟨v, rfl, ho, hb⟩ := hh
      obtain ⟨a, c, rfl, hr⟩ := ho.row (by have := sortsL_len d.prods; omega)
      exact ⟨a, c, rfl, hide ⟨hr, hb⟩, HS.out W' (below_next h.out hb)⟩)))
    have HLX := hide (fun (W : World) (h : Hid (Below w2.heap.size w2 W)) => (show Calls Try.prog 25 #[.agg #[.string d.start, .string d.layout, .slice a2 d.prods.length c2, .slice a3 d.chains.length c3, .slice a4 d.follows.length c4, .slice a5 d.rejects.length c5, .slice a6 d.boxes.length c6]] W fun e W' => ∃ a c, e = .returned (.slice a (lexL d).length c) ∧ Hid (Row StrAt 1 (lexL d) a W' ∧ Below W.heap.size W W') ∧ (fun W => (Hid (Below w2.heap.size w2 W) ∧ kx < W.heap.size ∧ W.cell? ⟨kx, 0, none⟩ = some (.string d.start) ∧ W.cell? ⟨kx, 1, none⟩ = some (.string d.layout) ∧ W.cell? ⟨kx, 2, none⟩ = some (.slice a2 d.prods.length c2) ∧ W.cell? ⟨kx, 3, none⟩ = some (.slice a3 d.chains.length c3) ∧ W.cell? ⟨kx, 4, none⟩ = some (.slice a4 d.follows.length c4) ∧ W.cell? ⟨kx, 5, none⟩ = some (.slice a5 d.rejects.length c5) ∧ W.cell? ⟨kx, 6, none⟩ = some (.slice a6 d.boxes.length c6))) W' from (Lexical_any d a2 c2 a3 c3 a4 c4 a5 c5 a6 c6 W (HD2.out.below h.out) HSM.out.pl5).mono (fun e W' hh => by
      obtain ⟨v, rfl, ho, hb⟩ := hh
      obtain ⟨a, c, rfl, hr⟩ := ho.row (by have := lexL_len d; have := HSM.out.pl; omega)
      exact ⟨a, c, rfl, hide ⟨hr, hb⟩, HS.out W' (below_next h.out hb)⟩)))
    have hs0 := HS.out _ (Below.drew (Below.refl w2.heap.size w2))
    go_region_held3 (fun W => (Hid (Below w2.heap.size w2 W) ∧ kx < W.heap.size ∧ W.cell? ⟨kx, 0, none⟩ = some (.string d.start) ∧ W.cell? ⟨kx, 1, none⟩ = some (.string d.layout) ∧ W.cell? ⟨kx, 2, none⟩ = some (.slice a2 d.prods.length c2) ∧ W.cell? ⟨kx, 3, none⟩ = some (.slice a3 d.chains.length c3) ∧ W.cell? ⟨kx, 4, none⟩ = some (.slice a4 d.follows.length c4) ∧ W.cell? ⟨kx, 5, none⟩ = some (.slice a5 d.rejects.length c5) ∧ W.cell? ⟨kx, 6, none⟩ = some (.slice a6 d.boxes.length c6))) (first | exact hs0 | assumption)
      (first
        | (go_at_call 22; refine (HSO.out _ (And.left (by assumption))).mono ?_; rintro e w3 ⟨a7, c7, rfl, hr3, hs3⟩)
        | (go_at_call 25; refine (HLX.out _ (And.left (by assumption))).mono ?_; rintro e w4 ⟨a8, c8, rfl, hr4, hs4⟩))
    have HR7 := hide (hr3.out.1.below StrAt.stable hr4.out.2)
    have HR8 := hide hr4.out.1
    have HS4 := hide hs4
    have hl7 := hr3.out.1.1
    have hl8 := hr4.out.1.1
    clear hs0 hr3 hr4 hs3 hs4
    go_wp2_with fail
    go_loopg [7] d.prods.length (fun u v7 wr => ∃ k : Nat, Hid (u = d.prods.length - k) ∧ v7 = .int .i64 (k : Int) ∧ Hid (k ≤ d.prods.length ∧ Below w4.heap.size w4 wr))
    case atStart => exact ⟨0, hide rfl, rfl, hide ⟨Nat.zero_le _, Below.refl _ _⟩⟩
    case round =>
      obtain ⟨k, hu, rfl, hh⟩ := hrel
      have hkl := hh.out.1
      obtain ⟨z1, zl, q0, q1, q2, q3, q4, q5, q6⟩ := HS.out wr (below_next HS4.out.1.out hh.out.2)
      by_cases hlt : k < d.prods.length
      · have hlti : (k : Int) < (d.prods.length : Int) := by omega
        obtain ⟨b, o, rfl, hb, hat⟩ := (HD2.out.below z1.out).p.get hlt
        have hx := hat k hlt
        have HPM := hide (List.getElem_mem hlt)
        generalize d.prods[k] = p at hx HPM
        clear hat
        obtain ⟨ap, cp, ⟨e0, e1, e2, e3, e4⟩, hrow⟩ := hx.cells
        have HROW := hide hrow
        have hsl := hrow.1
        have HBW := hide hh.out.2
        clear hx hrow hh
        go_upto_region 11 with fail
        obtain ⟨w6, h6⟩ : ∃ w6, wr.alloc (.cells #[.bool p.lex, .string p.sort, .string p.cons, .bool p.bracket, .slice ap p.syms.length cp] 38) = w6 := ⟨_, rfl⟩
        obtain ⟨ky, hky⟩ : ∃ ky, wr.heap.size = ky := ⟨_, rfl⟩
        have HB46 := hide (show Below w4.heap.size w4 w6 by rw [← h6]; exact HBW.out.alloc HBW.out.size _)
        have HBr6 := hide (show Below wr.heap.size wr w6 by rw [← h6]; exact NB.alloc (Below.refl _ _) _)
        have HY6 := hide (show Blk w6 ky #[.bool p.lex, .string p.sort, .string p.cons, .bool p.bracket, .slice ap p.syms.length cp] 38 by rw [← h6, ← hky]; exact Blk.new wr _ _)
        rw [h6, hky]
        clear h6 hky e0 e1 e2 e3 e4 q0 q1 q2 q3 q4 q5 q6 zl z1 hb
        have y4 := HY6.out.cell 4
        have yl := HY6.out.lt
        go_wp2_with fail
        clear y4 yl
        go_loopg [9, 10] p.syms.length (fun u v9 v10 wq => ∃ j : Nat, Hid (u = p.syms.length - j) ∧ v10 = .int .i64 (j : Int) ∧ v9 = .int .i64 (mustN (p.syms.take j) : Int) ∧ Hid (j ≤ p.syms.length ∧ Below w6.heap.size w6 wq))
        case atStart => exact ⟨0, hide rfl, rfl, rfl, hide ⟨Nat.zero_le _, Below.refl _ _⟩⟩
        case round =>
          obtain ⟨j, hv, rfl, rfl, hq⟩ := hrel
          have hjl := hq.out.1
          have y0 := (HY6.out.below hq.out.2).cell 0
          have y1 := (HY6.out.below hq.out.2).cell 1
          have y4 := (HY6.out.below hq.out.2).cell 4
          have yl := (HY6.out.below hq.out.2).lt
          by_cases hltj : j < p.syms.length
          · have hltji : (j : Int) < (p.syms.length : Int) := by omega
            obtain ⟨b2, o2, rfl, hb2, hat2⟩ := (HROW.out.below SyAt.stable (below_next HBr6.out hq.out.2)).get hltj
            have hx := hat2 j hltj
            have HSN := hide (show mustN (p.syms.take (j + 1)) = mustN (p.syms.take j) + (if leftB p.syms[j] = true then 0 else 1) by rw [take_snoc p.syms j hltj, mustN_snoc])
            have HSM2 := hide (List.getElem_mem hltj)
            have hmb : mustN (p.syms.take j) ≤ j := by
              have h1 := List.length_filter_le (fun s => !leftB s) (p.syms.take j)
              unfold mustN
              rw [List.length_take] at h1
              omega
            generalize p.syms[j] = y at hx HSN HSM2
            clear hat2
            obtain ⟨kd, t, st, nm, sp⟩ := y
            obtain ⟨f0, f1, f2, f3, f4, f5, f6, f7⟩ := hx.cells
            have HNM := hide (fun (he : emp nm = false) => HOK.out.name HPM.out HSM2.out he)
            have HNL := hide (fun (he : emp nm = false) (hl : p.lex = true) => HOK.out.lexName HPM.out HSM2.out he hl)
            clear hx
            go_upto_region 16 with fail
            obtain ⟨w8, h8⟩ : ∃ w8, wr.alloc (.cells #[.int .i64 kd, .string t, .int .u64 (st.w0 : Int), .int .u64 (st.w1 : Int), .int .u64 (st.w2 : Int), .int .u64 (st.w3 : Int), .string nm, .string sp] 61) = w8 := ⟨_, rfl⟩
            obtain ⟨ks, hks⟩ : ∃ ks, wr.heap.size = ks := ⟨_, rfl⟩
            have HBQ := hide (show Below w6.heap.size w6 w8 by rw [← h8]; exact hq.out.2.alloc hq.out.2.size _)
            have HS8 := hide (show Blk w8 ks #[.int .i64 kd, .string t, .int .u64 (st.w0 : Int), .int .u64 (st.w1 : Int), .int .u64 (st.w2 : Int), .int .u64 (st.w3 : Int), .string nm, .string sp] 61 by rw [← h8, ← hks]; exact Blk.new wr _ _)
            rw [h8, hks]
            clear h8 hks f0 f1 f2 f3 f4 f5 f6 f7 y0 y1 y4 yl hb2 hq
            have s0 := HS8.out.cell 0
            have s6 := HS8.out.cell 6
            have sl := HS8.out.lt
            have y0 := (HY6.out.below HBQ.out).cell 0
            have yl := (HY6.out.below HBQ.out).lt
            have HIN1 := hide (in_any (sortsL d.prods) nm _ c7 w8 (HR7.out.below StrAt.stable (below_next HB46.out HBQ.out)))
            have HIN2 := hide (in_any (lexL d) nm _ c8 w8 (HR8.out.below StrAt.stable (below_next HB46.out HBQ.out)))
            obtain ⟨mm, hmn0⟩ : ∃ mm, mustN (p.syms.take j) = mm := ⟨_, rfl⟩
            rw [hmn0] at hmb ⊢
            obtain ⟨lx, hlx⟩ : ∃ lx, p.lex = lx := ⟨_, rfl⟩
            rw [hlx] at y0
            have HLXE := hide hlx
            have HMN0 := hide hmn0
            clear hlx hmn0
            rcases emp_or nm with ⟨bn, zn, yn, vn, xn⟩ | ⟨bn, zn, yn, vn, xn⟩
            · have hne : (nm.toList == []) = true := by rw [xn]; rfl
              have hne2 : (!nm.toList == []) = false := by rw [hne]; rfl
              by_cases hk4 : kd = 4
              · have k4 : (kd == 4) = true := by simpa using hk4
                have k4n : (kd != 4) = false := by simp [hk4]
                have hmn : mustN (p.syms.take (j + 1)) = mustN (p.syms.take j) := by rw [HSN.out]; simp [leftB, hk4]
                rw [HMN0.out] at hmn
                clear hk4
                go_wp2_with fail
                go_roundg (p.syms.length - (j + 1))
                case measure => rw [hv.out]; omega
                case rel => exact ⟨j + 1, hide rfl, by go_num, by rw [hmn], hide ⟨hltj, HBQ.out⟩⟩
              have k4 : (kd == 4) = false := by simpa using hk4
              have k4n : (kd != 4) = true := by simp [hk4]
              by_cases hk5 : kd = 5
              · have k5 : (kd == 5) = true := by simpa using hk5
                have k5n : (kd != 5) = false := by simp [hk5]
                have hmn : mustN (p.syms.take (j + 1)) = mustN (p.syms.take j) := by rw [HSN.out]; simp [leftB, hk5]
                rw [HMN0.out] at hmn
                clear hk5 hk4
                go_wp2_with fail
                go_roundg (p.syms.length - (j + 1))
                case measure => rw [hv.out]; omega
                case rel => exact ⟨j + 1, hide rfl, by go_num, by rw [hmn], hide ⟨hltj, HBQ.out⟩⟩
              have k5 : (kd == 5) = false := by simpa using hk5
              have k5n : (kd != 5) = true := by simp [hk5]
              have hmn : mustN (p.syms.take (j + 1)) = mustN (p.syms.take j) + 1 := by rw [HSN.out]; simp [leftB, hk4, hk5]
              rw [HMN0.out] at hmn
              clear hk5 hk4
              go_wp2_with fail
              go_roundg (p.syms.length - (j + 1))
              case measure => rw [hv.out]; omega
              case rel => exact ⟨j + 1, hide rfl, by go_num, by rw [hmn]; go_num, hide ⟨hltj, HBQ.out⟩⟩
            have hne : (nm.toList == []) = false := beq_eq_false_iff_ne.2 xn
            have hne2 : (!nm.toList == []) = true := by rw [hne]; rfl
            have hi1 := HNM.out zn.out
            rw [hi1] at HIN1
            clear hi1
            cases lx with
            | false =>
              by_cases hk4 : kd = 4
              · have k4 : (kd == 4) = true := by simpa using hk4
                have k4n : (kd != 4) = false := by simp [hk4]
                have hmn : mustN (p.syms.take (j + 1)) = mustN (p.syms.take j) := by rw [HSN.out]; simp [leftB, hk4]
                rw [HMN0.out] at hmn
                clear hk4
                go_wp2_with fail
                refine HIN1.out.mono ?_
                rintro e w9 ⟨rfl, rfl⟩
                go_wp2_with fail
                go_roundg (p.syms.length - (j + 1))
                case measure => rw [hv.out]; omega
                case rel => exact ⟨j + 1, hide rfl, by go_num, by rw [hmn], hide ⟨hltj, HBQ.out⟩⟩
              have k4 : (kd == 4) = false := by simpa using hk4
              have k4n : (kd != 4) = true := by simp [hk4]
              by_cases hk5 : kd = 5
              · have k5 : (kd == 5) = true := by simpa using hk5
                have k5n : (kd != 5) = false := by simp [hk5]
                have hmn : mustN (p.syms.take (j + 1)) = mustN (p.syms.take j) := by rw [HSN.out]; simp [leftB, hk5]
                rw [HMN0.out] at hmn
                clear hk5 hk4
                go_wp2_with fail
                refine HIN1.out.mono ?_
                rintro e w9 ⟨rfl, rfl⟩
                go_wp2_with fail
                go_roundg (p.syms.length - (j + 1))
                case measure => rw [hv.out]; omega
                case rel => exact ⟨j + 1, hide rfl, by go_num, by rw [hmn], hide ⟨hltj, HBQ.out⟩⟩
              have k5 : (kd == 5) = false := by simpa using hk5
              have k5n : (kd != 5) = true := by simp [hk5]
              have hmn : mustN (p.syms.take (j + 1)) = mustN (p.syms.take j) + 1 := by rw [HSN.out]; simp [leftB, hk4, hk5]
              rw [HMN0.out] at hmn
              clear hk5 hk4
              go_wp2_with fail
              refine HIN1.out.mono ?_
              rintro e w9 ⟨rfl, rfl⟩
              go_wp2_with fail
              go_roundg (p.syms.length - (j + 1))
              case measure => rw [hv.out]; omega
              case rel => exact ⟨j + 1, hide rfl, by go_num, by rw [hmn]; go_num, hide ⟨hltj, HBQ.out⟩⟩
            | true =>
              have hi2 := HNL.out zn.out HLXE.out
              rw [hi2] at HIN2
              clear hi2
              by_cases hk4 : kd = 4
              · have k4 : (kd == 4) = true := by simpa using hk4
                have k4n : (kd != 4) = false := by simp [hk4]
                have hmn : mustN (p.syms.take (j + 1)) = mustN (p.syms.take j) := by rw [HSN.out]; simp [leftB, hk4]
                rw [HMN0.out] at hmn
                clear hk4
                go_wp2_with fail
                refine HIN1.out.mono ?_
                rintro e w9 ⟨rfl, rfl⟩
                go_wp2_with fail
                refine HIN2.out.mono ?_
                rintro e w9 ⟨rfl, rfl⟩
                go_wp2_with fail
                go_roundg (p.syms.length - (j + 1))
                case measure => rw [hv.out]; omega
                case rel => exact ⟨j + 1, hide rfl, by go_num, by rw [hmn], hide ⟨hltj, HBQ.out⟩⟩
              have k4 : (kd == 4) = false := by simpa using hk4
              have k4n : (kd != 4) = true := by simp [hk4]
              by_cases hk5 : kd = 5
              · have k5 : (kd == 5) = true := by simpa using hk5
                have k5n : (kd != 5) = false := by simp [hk5]
                have hmn : mustN (p.syms.take (j + 1)) = mustN (p.syms.take j) := by rw [HSN.out]; simp [leftB, hk5]
                rw [HMN0.out] at hmn
                clear hk5 hk4
                go_wp2_with fail
                refine HIN1.out.mono ?_
                rintro e w9 ⟨rfl, rfl⟩
                go_wp2_with fail
                refine HIN2.out.mono ?_
                rintro e w9 ⟨rfl, rfl⟩
                go_wp2_with fail
                go_roundg (p.syms.length - (j + 1))
                case measure => rw [hv.out]; omega
                case rel => exact ⟨j + 1, hide rfl, by go_num, by rw [hmn], hide ⟨hltj, HBQ.out⟩⟩
              have k5 : (kd == 5) = false := by simpa using hk5
              have k5n : (kd != 5) = true := by simp [hk5]
              have hmn : mustN (p.syms.take (j + 1)) = mustN (p.syms.take j) + 1 := by rw [HSN.out]; simp [leftB, hk4, hk5]
              rw [HMN0.out] at hmn
              clear hk5 hk4
              go_wp2_with fail
              refine HIN1.out.mono ?_
              rintro e w9 ⟨rfl, rfl⟩
              go_wp2_with fail
              refine HIN2.out.mono ?_
              rintro e w9 ⟨rfl, rfl⟩
              go_wp2_with fail
              go_roundg (p.syms.length - (j + 1))
              case measure => rw [hv.out]; omega
              case rel => exact ⟨j + 1, hide rfl, by go_num, by rw [hmn]; go_num, hide ⟨hltj, HBQ.out⟩⟩
          · have hltji : ¬ (j : Int) < (p.syms.length : Int) := by omega
            have hm0 : mustN (p.syms.take j) ≠ 0 := by rw [List.take_of_length_le (by omega)]; exact HOK.out.must HPM.out
            obtain ⟨mm, hmn0⟩ : ∃ mm, mustN (p.syms.take j) = mm := ⟨_, rfl⟩
            rw [hmn0] at hm0 ⊢
            have hm0i : ((mm : Int) == 0) = false := by rw [beq_eq_false_iff_ne]; omega
            have HBQ := hide hq.out.2
            have HLE := hide (HOK.out.lexEq HPM.out)
            have HINQ := hide (fun n => show Calls Try.prog 24 #[.slice a8 (lexL d).length c8, .string p.sort] (wr.drewN n) fun e w' => e = .returned (.bool p.lex) ∧ w' = wr.drewN n from (by
              have := (in_any (lexL d) p.sort _ c8 (wr.drewN n) (HR8.out.below StrAt.stable (below_next HB46.out (HBQ.out.trans ⟨rfl, rfl, rfl, Nat.le_refl _, fun _ _ => rfl⟩))))
              rw [HLE.out] at this
              exact this.mono (fun e w' h => ⟨h.1, h.2.symm⟩)))
            obtain ⟨lx, hlx⟩ : ∃ lx, p.lex = lx := ⟨_, rfl⟩
            rw [hlx] at y0 HINQ
            clear hmn0 hq hm0 hlx
            go_upto_region 20 with fail
            cases lx
            all_goals
              go_quiet ((go_at_call 24; exact Calls.quiet_of_same (HINQ.out _)))
              go_wp2_with fail
              go_roundg (d.prods.length - (k + 1))
              case measure => rw [hu.out]; omega
              case rel => exact ⟨k + 1, hide rfl, by go_num, hide ⟨hlt, below_next HB46.out (HBQ.out.trans ⟨rfl, rfl, rfl, Nat.le_refl _, fun _ _ => rfl⟩)⟩⟩
      · have hlti : ¬ (k : Int) < (d.prods.length : Int) := by omega
        have HAL := hide (alive_any wr)
        have HBW := hide hh.out.2
        clear hh
        go_wp2_with fail
        refine HAL.out.mono ?_
        rintro e w7 ⟨rfl, hb7⟩
        have HB47 := hide (below_next HBW.out hb7)
        clear q0 q1 q2 q3 q4 q5 q6 zl z1
        have HS7 := hide (HS.out w7 (below_next HS4.out.1.out HB47.out))
        obtain ⟨z1, zl, q0, q1, q2, q3, q4, q5, q6⟩ := HS7.out
        have HIN1 := hide (in_any (sortsL d.prods) d.start _ c7 w7 (HR7.out.below StrAt.stable HB47.out))
        have HIN2 := hide (in_any (lexL d) d.start _ c8 w7 (HR8.out.below StrAt.stable HB47.out))
        have HIN3 := hide (in_any (lexL d) d.layout _ c8 w7 (HR8.out.below StrAt.stable HB47.out))
        rw [HOK.out.starts.1] at HIN1
        rw [HOK.out.starts.2] at HIN2
        clear hb7
        go_wp2_with fail
        refine HIN1.out.mono ?_
        rintro e w9 ⟨rfl, rfl⟩
        go_wp2_with fail
        refine HIN2.out.mono ?_
        rintro e w9 ⟨rfl, rfl⟩
        have HFIN := hide (below_next HB2.out z1.out)
        rcases emp_or d.layout with ⟨bn, zn, yn, vn, xn⟩ | ⟨bn, zn, yn, vn, xn⟩
        · have hne : (d.layout.toList == []) = true := by rw [xn]; rfl
          go_wp2_with fail
          go_ret
          exact ⟨rfl, HFIN.out⟩
        · have hne : (d.layout.toList == []) = false := beq_eq_false_iff_ne.2 xn
          rw [HOK.out.lay zn.out] at HIN3
          go_wp2_with fail
          refine HIN3.out.mono ?_
          rintro e w9 ⟨rfl, rfl⟩
          go_wp2_with fail
          go_ret
          exact ⟨rfl, HFIN.out⟩
end Go.Proofs.Ytalicfpcmcbdbaa
