/- The walk of Parts. -/
import Derived.Test.YtalicfpcmcbdbaaZOkD
import Derived.Test.YtalicfpcmcbdbaaZRItems
set_option linter.unusedVariables false
set_option linter.unusedSimpArgs false
set_option linter.unnecessarySimpa false
set_option linter.deprecated false
namespace Go.Proofs.Ytalicfpcmcbdbaa
open Go.RowKit

theorem i64_wrap (z : Int) : i64 (wrap64 z) := by unfold i64 wrap64; omega
set_option maxHeartbeats 800000 in
set_option maxRecDepth 100000 in
theorem itemParts_all : ∀ (N : Nat) (l : List It), SizeOf.sizeOf l < N → ∀ (a : Option Addr) (c : Nat) (w : World), Row ItAt 4 l a w →
    Calls Try.prog 67 #[.slice a l.length c, .int .i64 400] w fun e w' => (∃ v, i64 v ∧ e = .returned (.int .i64 v)) ∧ Below w.heap.size w w' := by
  intro N
  induction N with
  | zero => intro l h; exact absurd h (Nat.not_lt_zero _)
  | succ N ih =>
    intro l hN a c w hr
    have HR := hide hr
    have HN := hide hN
    have IH := hide ih
    have hln := hr.1
    clear hr hN ih
    go_enter Try.func67, Try.ntmps67
    go_wp2_with fail
    go_loopg [5, 6] l.length (fun u v5 v6 wr => ∃ (k : Nat) (n : Int), Hid (u = l.length - k) ∧ v6 = .int .i64 (k : Int) ∧ v5 = .int .i64 n ∧ Hid (k ≤ l.length ∧ i64 n ∧ Below w.heap.size w wr))
    case atStart => exact ⟨0, l.length, hide rfl, rfl, rfl, hide ⟨Nat.zero_le _, by unfold i64; omega, Below.refl _ _⟩⟩
    case round =>
      obtain ⟨k, n, hu, rfl, rfl, hh⟩ := hrel
      have hkl := hh.out.1
      by_cases hlt : k < l.length
      · have hlti : (k : Int) < (l.length : Int) := by omega
        by_cases hn : n ≤ 400
        · have hnd : decide (n ≤ 400) = true := decide_eq_true hn
          obtain ⟨b, o, rfl, hb, hat⟩ := (HR.out.below ItAt.stable hh.out.2.2).get hlt
          have hx := hat k hlt
          have hsz : SizeOf.sizeOf l[k].kids < N := by
            have h1 := sizeOf_kids l[k]
            have h2 := List.sizeOf_lt_of_mem (List.getElem_mem hlt)
            have := HN.out
            omega
          generalize l[k] = x at hx hsz
          clear hat
          obtain ⟨⟨hk1, ht1, hn1⟩, ak, ck, ⟨e0, e1, e2, e3⟩, hrow⟩ := hx.cells
          have HC := hide (IH.out x.kids hsz ak ck wr hrow)
          clear hx hrow hsz
          go_wp2_with fail
          refine HC.out.mono ?_
          rintro e w5 ⟨⟨v, hv, rfl⟩, hb5⟩
          have HB5 := hide (below_next hh.out.2.2 hb5)
          go_wp2_with fail
          go_roundg (l.length - (k + 1))
          case measure => rw [hu.out]; omega
          case rel => exact ⟨k + 1, wrap64 (n + v), hide rfl, by go_num, rfl, hide ⟨hlt, i64_wrap _, HB5.out⟩⟩
        · have hnd : decide (n ≤ 400) = false := decide_eq_false hn
          go_wp2_with fail
          go_ret
          exact ⟨⟨n, hh.out.2.1, rfl⟩, hh.out.2.2⟩
      · have hlti : ¬ (k : Int) < (l.length : Int) := by omega
        go_wp2_with fail
        go_ret
        exact ⟨⟨n, hh.out.2.1, rfl⟩, hh.out.2.2⟩
def base0 (d : Df) : Nat := d.prods.length + d.chains.length + d.follows.length + d.rejects.length + d.boxes.length
def t1 (d : Df) (k : Nat) : Nat := base0 d + ((d.prods.take k).map (fun p => p.syms.length)).sum
def consN (ch : List Gp) (i : Nat) : Nat := ((ch.take i).map (fun g => g.cons.length)).sum
def chW (ch : List Gp) : Nat := ch.length + consN ch ch.length
def t2 (d : Df) (k : Nat) : Nat := t1 d d.prods.length + ((d.chains.take k).map chW).sum
/-- How many parts a definition has, but for what its templates hold. -/
def totD (d : Df) : Nat := t2 d d.chains.length
theorem t1_snoc (d : Df) (k : Nat) (h : k < d.prods.length) : t1 d (k + 1) = t1 d k + d.prods[k].syms.length := by
  unfold t1; rw [take_snoc _ _ h, List.map_append, List.sum_append]; simp; omega
theorem t2_snoc (d : Df) (k : Nat) (h : k < d.chains.length) : t2 d (k + 1) = t2 d k + chW d.chains[k] := by
  unfold t2; rw [take_snoc _ _ h, List.map_append, List.sum_append]; simp; omega
theorem consN_snoc (ch : List Gp) (k : Nat) (h : k < ch.length) : consN ch (k + 1) = consN ch k + ch[k].cons.length := by
  unfold consN; rw [take_snoc _ _ h, List.map_append, List.sum_append]; simp
set_option maxHeartbeats 800000 in
set_option maxRecDepth 100000 in
theorem Parts_any (d : Df) (a2 : Option Addr) (c2 : Nat) (a3 : Option Addr) (c3 : Nat) (a4 : Option Addr) (c4 : Nat) (a5 : Option Addr) (c5 : Nat) (a6 : Option Addr) (c6 : Nat) (w : World) (hd : RD d ⟨a2, c2, a3, c3, a4, c4, a5, c5, a6, c6⟩ w) :
    Calls Try.prog 31 #[.agg #[.string d.start, .string d.layout, .slice a2 d.prods.length c2, .slice a3 d.chains.length c3, .slice a4 d.follows.length c4, .slice a5 d.rejects.length c5, .slice a6 d.boxes.length c6], .int .i64 400] w fun e w' => (∃ v, i64 v ∧ e = .returned (.int .i64 v) ∧ (v ≤ 400 → totD d ≤ 400)) ∧ Below w.heap.size w w' := by
  have hl2 := hd.p.1
  have hl3 := hd.c.1
  have hl4 := hd.f.1
  have hl5 := hd.j.1
  have hl6 := hd.x.1
  have HD := hide hd
  have HB0 := hide (NB.alloc (Below.refl w.heap.size w) (.cells #[.string d.start, .string d.layout, .slice a2 d.prods.length c2, .slice a3 d.chains.length c3, .slice a4 d.follows.length c4, .slice a5 d.rejects.length c5, .slice a6 d.boxes.length c6] 28))
  have HX0 := hide (Blk.new w #[.string d.start, .string d.layout, .slice a2 d.prods.length c2, .slice a3 d.chains.length c3, .slice a4 d.follows.length c4, .slice a5 d.rejects.length c5, .slice a6 d.boxes.length c6] 28)
  clear hd
  go_enter Try.func31, Try.ntmps31
  go_upto_region 1 with fail
  obtain ⟨w1, h1⟩ : ∃ w1, w.alloc (.cells #[.string d.start, .string d.layout, .slice a2 d.prods.length c2, .slice a3 d.chains.length c3, .slice a4 d.follows.length c4, .slice a5 d.rejects.length c5, .slice a6 d.boxes.length c6] 28) = w1 := ⟨_, rfl⟩
  obtain ⟨kx, hkx⟩ : ∃ kx, w.heap.size = kx := ⟨_, rfl⟩
  rw [h1] at HB0 HX0 ⊢
  rw [hkx] at HX0 ⊢
  clear h1 hkx
  have HD1 := hide (HD.out.below HB0.out)
  have x2 := HX0.out.cell 2
  have x3 := HX0.out.cell 3
  have x4 := HX0.out.cell 4
  have x5 := HX0.out.cell 5
  have x6 := HX0.out.cell 6
  have xl := HX0.out.lt
  go_upto_block 0 with fail
  go_cut [5, 6] from 29 to 49 (fun v5 v6 wc => ∃ n : Nat, v5 = .int .i64 (n : Int) ∧ Hid (n ≤ 703687441756560 ∧ (n ≤ 400 → t1 d d.prods.length ≤ n) ∧ Below w1.heap.size w1 wc))
  case first =>
    go_wp2_with fail
    clear x2 x3 x4 x5 x6 xl
    go_loopg [5, 6] d.prods.length (fun u v5 v6 wr => ∃ k n : Nat, Hid (u = d.prods.length - k) ∧ v6 = .int .i64 (k : Int) ∧ v5 = .int .i64 (n : Int) ∧ Hid (k ≤ d.prods.length ∧ n ≤ 703687441756560 ∧ (n ≤ 400 → t1 d k ≤ n) ∧ Below w1.heap.size w1 wr))
    case atStart => exact ⟨0, base0 d, hide rfl, rfl, by unfold base0; go_num, hide ⟨Nat.zero_le _, by unfold base0; omega, fun _ => by unfold t1; simp, Below.refl _ _⟩⟩
    case round =>
      obtain ⟨k, n, hu, rfl, rfl, hh⟩ := hrel
      have hkl := hh.out.1
      have hnb := hh.out.2.1
      have x2 := (HX0.out.below hh.out.2.2.2).cell 2
      have xl := (HX0.out.below hh.out.2.2.2).lt
      by_cases hlt : k < d.prods.length
      · have hlti : (k : Int) < (d.prods.length : Int) := by omega
        by_cases hn : n ≤ 400
        · have hni : (n : Int) ≤ 400 := by omega
          have hnd : decide ((n : Int) ≤ 400) = true := decide_eq_true hni
          obtain ⟨b, o, rfl, hb, hat⟩ := (HD1.out.below hh.out.2.2.2).p.get hlt
          have hx := hat k hlt
          have HSN := hide (t1_snoc d k hlt)
          generalize d.prods[k] = x at hx HSN
          clear hat
          obtain ⟨ap, cp, ⟨e0, e1, e2, e3, e4⟩, hrow⟩ := hx.cells
          have hsl := hrow.1
          clear hx hrow
          go_wp2_with fail
          go_roundg (d.prods.length - (k + 1))
          case measure => rw [hu.out]; omega
          case rel => exact ⟨k + 1, n + x.syms.length, hide rfl, by go_num, by go_num, hide ⟨hlt, by omega, fun _ => by rw [HSN.out]; have := hh.out.2.2.1 hn; omega, hh.out.2.2.2⟩⟩
        · have hni : ¬ (n : Int) ≤ 400 := by omega
          have hnd : decide ((n : Int) ≤ 400) = false := decide_eq_false hni
          go_wp2_with fail
          go_meet
          exact ⟨n, rfl, hide ⟨hnb, fun h => absurd h hn, hh.out.2.2.2⟩⟩
      · have hlti : ¬ (k : Int) < (d.prods.length : Int) := by omega
        go_wp2_with fail
        go_meet
        exact ⟨n, rfl, hide ⟨hnb, fun h => by have := hh.out.2.2.1 h; rw [show d.prods.length = k by omega]; exact this, hh.out.2.2.2⟩⟩
  case rest =>
    obtain ⟨n0, rfl, hc⟩ := hcut
    clear x2 x3 x4 x5 x6 xl
    have HC0 := hide hc.out
    have HX1 := hide (HX0.out.below hc.out.2.2)
    have HD2 := hide (HD1.out.below hc.out.2.2)
    have HB2 := hide (below_next HB0.out hc.out.2.2)
    have hn0 := hc.out.1
    clear hc
    have x3 := HX1.out.cell 3
    have xl := HX1.out.lt
    go_upto_block 2 with fail
    go_cut [5, 7, 8] from 50 to 96 (fun v5 v7 v8 we => ∃ n : Nat, v5 = .int .i64 (n : Int) ∧ Hid (n ≤ 703687441756560 ∧ (n ≤ 400 → totD d ≤ n) ∧ Below wc.heap.size wc we))
    case first =>
      go_wp2_with fail
      clear x3 xl
      go_loopg [5, 7, 8] d.chains.length (fun u v5 v7 v8 wr => ∃ k n : Nat, Hid (u = d.chains.length - k) ∧ v7 = .int .i64 (k : Int) ∧ v5 = .int .i64 (n : Int) ∧ Hid (k ≤ d.chains.length ∧ n ≤ 703687441756560 ∧ (n ≤ 400 → t2 d k ≤ n) ∧ Below wc.heap.size wc wr))
      case atStart => exact ⟨0, n0, hide rfl, rfl, rfl, hide ⟨Nat.zero_le _, hn0, fun h => by unfold t2; simpa using HC0.out.2.1 h, Below.refl _ _⟩⟩
      case round =>
        obtain ⟨k, n, hu, rfl, rfl, hh⟩ := hrel
        have hkl := hh.out.1
        have hnb := hh.out.2.1
        have x3 := (HX1.out.below hh.out.2.2.2).cell 3
        have xl := (HX1.out.below hh.out.2.2.2).lt
        by_cases hlt : k < d.chains.length
        · have hlti : (k : Int) < (d.chains.length : Int) := by omega
          by_cases hn : n ≤ 400
          · have hni : (n : Int) ≤ 400 := by omega
            have hnd : decide ((n : Int) ≤ 400) = true := decide_eq_true hni
            obtain ⟨b, o, rfl, hb, hat⟩ := (HD2.out.below hh.out.2.2.2).c.get hlt
            have hx := hat k hlt
            have HSN := hide (t2_snoc d k hlt)
            generalize d.chains[k] = ch at hx HSN
            clear hat
            rw [Nat.mul_one] at hx
            obtain ⟨ac, cc, e0, hrow⟩ := hx
            have hsl := hrow.1
            have HROW := hide hrow
            have HBW := hide hh.out.2.2.2
            have HT := hide (hh.out.2.2.1 hn)
            clear hrow hh
            go_wp2_with fail
            clear x3 xl
            go_loopg [5, 8] ch.length (fun u v5 v8 wq => ∃ i m : Nat, Hid (u = ch.length - i) ∧ v8 = .int .i64 (i : Int) ∧ v5 = .int .i64 (m : Int) ∧ Hid (i ≤ ch.length ∧ m ≤ 703687441756560 ∧ (m ≤ 400 → t2 d k + ch.length + consN ch i ≤ m) ∧ Below wr.heap.size wr wq))
            case atStart => exact ⟨0, n + ch.length, hide rfl, rfl, by go_num, hide ⟨Nat.zero_le _, by omega, fun _ => by have := HT.out; unfold consN; simp; omega, Below.refl _ _⟩⟩
            case round =>
              obtain ⟨i, m, hv, rfl, rfl, hq⟩ := hrel
              have hil := hq.out.1
              have hmb := hq.out.2.1
              have x3 := (HX1.out.below (below_next HBW.out hq.out.2.2.2)).cell 3
              have xl := (HX1.out.below (below_next HBW.out hq.out.2.2.2)).lt
              have f0 := (hq.out.2.2.2.cell (p := ⟨b, o + k, none⟩) hb).trans e0
              have hb2 := Nat.lt_of_lt_of_le hb hq.out.2.2.2.size
              by_cases hlti : i < ch.length
              · have hltii : (i : Int) < (ch.length : Int) := by omega
                by_cases hm : m ≤ 400
                · have hmi : (m : Int) ≤ 400 := by omega
                  have hmd : decide ((m : Int) ≤ 400) = true := decide_eq_true hmi
                  obtain ⟨b2, o2, rfl, hb3, hat⟩ := (HROW.out.below GpAt.stable hq.out.2.2.2).get hlti
                  have hx := hat i hlti
                  have HSI := hide (consN_snoc ch i hlti)
                  generalize ch[i] = g at hx HSI
                  clear hat
                  obtain ⟨ag, cg, ⟨g0, g1⟩, hrow⟩ := hx.cells
                  have hgl := hrow.1
                  clear hx hrow
                  go_wp2_with fail
                  go_roundg (ch.length - (i + 1))
                  case measure => rw [hv.out]; omega
                  case rel => exact ⟨i + 1, m + g.cons.length, hide rfl, by go_num, by go_num, hide ⟨hlti, by omega, fun _ => by rw [HSI.out]; have := hq.out.2.2.1 hm; omega, hq.out.2.2.2⟩⟩
                · have hmi : ¬ (m : Int) ≤ 400 := by omega
                  have hmd : decide ((m : Int) ≤ 400) = false := decide_eq_false hmi
                  have HQB := hide hq.out.2.2.2
                  clear hq
                  go_wp2_with fail
                  go_roundg (d.chains.length - (k + 1))
                  case measure => rw [hu.out]; omega
                  case rel => exact ⟨k + 1, m, hide rfl, by go_num, rfl, hide ⟨hlt, hmb, fun h => absurd h hm, below_next HBW.out HQB.out⟩⟩
              · have hltii : ¬ (i : Int) < (ch.length : Int) := by omega
                have HQ := hide hq.out
                clear hq
                go_wp2_with fail
                go_roundg (d.chains.length - (k + 1))
                case measure => rw [hu.out]; omega
                case rel => exact ⟨k + 1, m, hide rfl, by go_num, rfl, hide ⟨hlt, hmb, fun h => by rw [HSN.out]; unfold chW; have := HQ.out.2.2.1 h; rw [show i = ch.length by omega] at this; omega, below_next HBW.out HQ.out.2.2.2⟩⟩
          · have hni : ¬ (n : Int) ≤ 400 := by omega
            have hnd : decide ((n : Int) ≤ 400) = false := decide_eq_false hni
            go_wp2_with fail
            go_meet
            exact ⟨n, rfl, hide ⟨hnb, fun h => absurd h hn, hh.out.2.2.2⟩⟩
        · have hlti : ¬ (k : Int) < (d.chains.length : Int) := by omega
          go_wp2_with fail
          go_meet
          exact ⟨n, rfl, hide ⟨hnb, fun h => by have := hh.out.2.2.1 h; unfold totD; rw [show d.chains.length = k by omega]; exact this, hh.out.2.2.2⟩⟩
    case rest =>
      obtain ⟨n1, rfl, hc⟩ := hcut
      clear x3 xl
      have HTT := hide hc.out.2.1
      have HX2 := hide (HX1.out.below hc.out.2.2)
      have HD3 := hide (HD2.out.below hc.out.2.2)
      have HB3 := hide (below_next HB2.out hc.out.2.2)
      have hn1 := hc.out.1
      clear hc
      have x6 := HX2.out.cell 6
      have xl := HX2.out.lt
      go_wp2_with fail
      clear x6 xl
      obtain ⟨wb, rfl⟩ : ∃ wb : World, wb = wc := ⟨_, rfl⟩
      go_loopg [5, 9] d.boxes.length (fun u v5 v9 wr => ∃ (k : Nat) (n : Int), Hid (u = d.boxes.length - k) ∧ v9 = .int .i64 (k : Int) ∧ v5 = .int .i64 n ∧ Hid (k ≤ d.boxes.length ∧ i64 n ∧ (n ≤ 400 → totD d ≤ 400) ∧ Below wb.heap.size wb wr))
      case atStart => exact ⟨0, n1, hide rfl, rfl, rfl, hide ⟨Nat.zero_le _, by unfold i64; omega, fun h => by have := HTT.out (by omega); omega, Below.refl _ _⟩⟩
      case round =>
        obtain ⟨k, n, hu, rfl, rfl, hh⟩ := hrel
        have hkl := hh.out.1
        have x6 := (HX2.out.below hh.out.2.2.2).cell 6
        have xl := (HX2.out.below hh.out.2.2.2).lt
        by_cases hlt : k < d.boxes.length
        · have hlti : (k : Int) < (d.boxes.length : Int) := by omega
          by_cases hn : n ≤ 400
          · have hnd : decide (n ≤ 400) = true := decide_eq_true hn
            obtain ⟨b, o, rfl, hb, hat⟩ := (HD3.out.below hh.out.2.2.2).x.get hlt
            have hx := hat k hlt
            generalize d.boxes[k] = x at hx
            clear hat
            obtain ⟨hsh, ai, ci, ⟨e0, e1⟩, hrow⟩ := hx.cells
            have HC := hide (itemParts_all _ x.items (Nat.lt_succ_self _) ai ci wr hrow)
            clear hx hrow hsh
            go_wp2_with fail
            refine HC.out.mono ?_
            rintro e w5 ⟨⟨v, hv, rfl⟩, hb5⟩
            have HB5 := hide (below_next hh.out.2.2.2 hb5)
            have HT := hide (hh.out.2.2.1 hn)
            clear hb5
            go_wp2_with fail
            go_roundg (d.boxes.length - (k + 1))
            case measure => rw [hu.out]; omega
            case rel => exact ⟨k + 1, wrap64 (n + v), hide rfl, by go_num, rfl, hide ⟨hlt, i64_wrap _, fun _ => HT.out, HB5.out⟩⟩
          · have hnd : decide (n ≤ 400) = false := decide_eq_false hn
            go_wp2_with fail
            go_ret
            exact ⟨⟨n, hh.out.2.1, rfl, hh.out.2.2.1⟩, below_next HB3.out hh.out.2.2.2⟩
        · have hlti : ¬ (k : Int) < (d.boxes.length : Int) := by omega
          go_wp2_with fail
          go_ret
          exact ⟨⟨n, hh.out.2.1, rfl, hh.out.2.2.1⟩, below_next HB3.out hh.out.2.2.2⟩
theorem sum_ge {α : Type} (f : α → Nat) : ∀ (l : List α) (x : α), x ∈ l → f x ≤ (l.map f).sum
  | [], x, h => by cases h
  | y :: l, x, h => by
    rw [List.map_cons, List.sum_cons]
    rcases List.mem_cons.1 h with rfl | h
    · omega
    · have := sum_ge f l x h; omega
theorem totD_eq (d : Df) : totD d = base0 d + (d.prods.map (fun p => p.syms.length)).sum + (d.chains.map chW).sum := by
  unfold totD t2 t1; rw [List.take_length, List.take_length]
theorem flatN_le (f : Pd → List ByteArray) (hf : ∀ p, (f p).length ≤ p.syms.length) : ∀ l : List Pd, (l.flatMap f).length ≤ (l.map (fun p => p.syms.length)).sum
  | [] => Nat.le_refl _
  | x :: l => by
    rw [List.flatMap_cons, List.length_append, List.map_cons, List.sum_cons]
    have := flatN_le f hf l
    have := hf x
    omega
theorem chainN_len (ch : List Gp) : (chainN ch).length = consN ch ch.length := by
  unfold chainN consN
  rw [List.take_length, List.length_flatMap]
theorem tot_small {d : Df} (h : totD d ≤ 400) : Small d := by
  rw [totD_eq] at h
  unfold base0 at h
  refine ⟨by omega, fun p hp => ?_, ?_, fun ch hc => ?_, by omega⟩
  · have := sum_ge (fun p : Pd => p.syms.length) d.prods p hp
    omega
  · unfold usedL
    simp only [List.length_append, List.length_map, rejN_len]
    have := flatN_le namesL (fun p => namesOf_len p.syms) d.prods
    omega
  · have := sum_ge chW d.chains ch hc
    rw [chainN_len]
    have e : chW ch = ch.length + consN ch ch.length := rfl
    omega
set_option maxHeartbeats 800000 in
set_option maxRecDepth 100000 in
theorem heavy_any (d : Df) (a2 : Option Addr) (c2 : Nat) (a3 : Option Addr) (c3 : Nat) (a4 : Option Addr) (c4 : Nat) (a5 : Option Addr) (c5 : Nat) (a6 : Option Addr) (c6 : Nat) (w : World) (hd : RD d ⟨a2, c2, a3, c3, a4, c4, a5, c5, a6, c6⟩ w) :
    Calls Try.prog 11 #[.agg #[.string d.start, .string d.layout, .slice a2 d.prods.length c2, .slice a3 d.chains.length c3, .slice a4 d.follows.length c4, .slice a5 d.rejects.length c5, .slice a6 d.boxes.length c6]] w fun e w' => (∃ b, e = .returned (.bool b) ∧ (b = false → totD d ≤ 400)) ∧ Below w.heap.size w w' := by
  have HB0 := hide (NB.alloc (Below.refl w.heap.size w) (.cells #[.string d.start, .string d.layout, .slice a2 d.prods.length c2, .slice a3 d.chains.length c3, .slice a4 d.follows.length c4, .slice a5 d.rejects.length c5, .slice a6 d.boxes.length c6] 28))
  have HC := hide (Parts_any d a2 c2 a3 c3 a4 c4 a5 c5 a6 c6 (w.alloc (.cells #[.string d.start, .string d.layout, .slice a2 d.prods.length c2, .slice a3 d.chains.length c3, .slice a4 d.follows.length c4, .slice a5 d.rejects.length c5, .slice a6 d.boxes.length c6] 28)) (hd.below HB0.out))
  clear hd
  go_enter Try.func11, Try.ntmps11
  go_wp2_with fail
  refine HC.out.mono ?_
  rintro e w5 ⟨⟨v, hv, rfl, hs⟩, hb5⟩
  have HB5 := hide (below_next HB0.out hb5)
  have HS := hide hs
  clear hb5 hs
  by_cases hn : v > 400
  · have hnd : decide (v > 400) = true := decide_eq_true hn
    go_wp2_with fail
    go_ret
    exact ⟨⟨true, by first | rfl | rw [hnd], fun h => absurd h (by decide)⟩, HB5.out⟩
  · have hnd : decide (v > 400) = false := decide_eq_false hn
    go_wp2_with fail
    go_ret
    exact ⟨⟨false, by first | rfl | rw [hnd], fun _ => HS.out (by omega)⟩, HB5.out⟩
end Go.Proofs.Ytalicfpcmcbdbaa
