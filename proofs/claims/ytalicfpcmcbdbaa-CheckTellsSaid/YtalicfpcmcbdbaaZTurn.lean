/- The walk of Holes. The reference: the holes. The walk of turn. -/
import Derived.Test.YtalicfpcmcbdbaaZNames
import Derived.Test.YtalicfpcmcbdbaaZLeft
import Derived.BigQuiet
set_option linter.unusedVariables false
set_option linter.unusedSimpArgs false
set_option linter.unnecessarySimpa false
set_option linter.deprecated false
namespace Go.Proofs.Ytalicfpcmcbdbaa
open Go.RowKit

theorem info3 : (Try.prog.info? 3).map (fun i => (i.zero, i.size, i.bytes)) = some (some (.int .i64 0), 1, 8) := by kernel_rfl
def intsC (l : List Nat) : List Value := l.map (fun (n : Nat) => Value.int .i64 (n : Int))
theorem intsC_snoc (l : List Nat) (n : Nat) : intsC (l ++ [n]) = intsC l ++ [.int .i64 (n : Int)] := by simp [intsC]
def OwnI (B : Nat) (v : Value) (l : List Nat) (W : World) : Prop := W.ownsRow B 3 1 v l.length (intsC l)
/-- The places of the symbols that are no literals. -/
def holesOf : List Sy → Nat → List Nat
  | [], _ => []
  | s :: r, k => if s.kind = 1 then holesOf r (k + 1) else k :: holesOf r (k + 1)
theorem holesOf_snoc : ∀ (l : List Sy) (s : Sy) (k : Nat), holesOf (l ++ [s]) k = holesOf l k ++ (if s.kind = 1 then [] else [k + l.length])
  | [], s, k => by rw [List.nil_append, holesOf]; by_cases h : s.kind = 1 <;> simp [h, holesOf]
  | x :: l, s, k => by
    rw [List.cons_append, holesOf, holesOf, holesOf_snoc l s (k + 1)]
    rw [show k + 1 + l.length = k + (x :: l).length by rw [List.length_cons]; omega]
    split <;> simp
theorem holesOf_len : ∀ (l : List Sy) (k : Nat), (holesOf l k).length ≤ l.length
  | [], k => by simp [holesOf]
  | x :: l, k => by
    have := holesOf_len l (k + 1)
    rw [holesOf]
    split <;> simp <;> omega
structure HoR (w1 : World) (p : Pd) (k : Nat) (v : Value) (wr : World) : Prop where
  le : k ≤ p.syms.length
  b : Below w1.heap.size w1 wr
  o : OwnI w1.heap.size v (holesOf (p.syms.take k) 0) wr
set_option maxHeartbeats 4000000 in
set_option maxRecDepth 100000 in
theorem Holes_at (p : Pd) (ap : Option Addr) (cp : Nat) (w : World) (hr : Row SyAt 8 p.syms ap w) (hln : p.syms.length ≤ 100000) : Calls Try.prog 18 #[.agg #[.bool p.lex, .string p.sort, .string p.cons, .bool p.bracket, .slice ap p.syms.length cp]] w fun e w' => ∃ v, e = .returned v ∧ OwnI w.heap.size v (holesOf p.syms 0) w' ∧ Below w.heap.size w w' := by
  obtain ⟨i0, hi, hz0, hz1, hz2⟩ := info_parts info3
  have HB0 := hide ((Below.refl w.heap.size w).alloc (Nat.le_refl _) (.cells #[.bool p.lex, .string p.sort, .string p.cons, .bool p.bracket, .slice ap p.syms.length cp] 38))
  have HR := hide (hr.below SyAt.stable HB0.out)
  have HI0 := hide (show HoR (w.alloc (.cells #[.bool p.lex, .string p.sort, .string p.cons, .bool p.bracket, .slice ap p.syms.length cp] 38)) p 0 (.slice none 0 0) _ from ⟨Nat.zero_le _, Below.refl _ _, World.ownsRow_nil _ _ _ _⟩)
  clear hr
  go_enter Try.func18, Try.ntmps18
  go_wp2_with fail
  generalize w.alloc (.cells #[.bool p.lex, .string p.sort, .string p.cons, .bool p.bracket, .slice ap p.syms.length cp] 38) = w1 at HR HI0 HB0 ⊢
  go_loopg [3, 9] p.syms.length (fun u v3 v9 wr => ∃ k : Nat, Hid (u = p.syms.length - k) ∧ v9 = .int .i64 (k : Int) ∧ Hid (HoR w1 p k v3 wr))
  case atStart => exact ⟨0, hide rfl, rfl, HI0⟩
  case round =>
    obtain ⟨k, hu, rfl, hh⟩ := hrel
    have hkl := hh.out.le
    by_cases hlt : k < p.syms.length
    · have hlti : (k : Int) < (p.syms.length : Int) := by omega
      obtain ⟨b, o, rfl, hb, hat⟩ := (HR.out.below SyAt.stable hh.out.b).get hlt
      have hx := hat k hlt
      have hts := take_snoc p.syms k hlt
      generalize p.syms[k] = x at hx hts
      clear hat
      obtain ⟨kd, t, st, nm, sp⟩ := x
      obtain ⟨e0, e1, e2, e3, e4, e5, e6, e7⟩ := hx.cells
      have HN := hide (holesOf_snoc (p.syms.take k) ⟨kd, t, st, nm, sp⟩ 0)
      have HTS := hide hts
      have hml : (holesOf (p.syms.take k) 0).length ≤ 100000 := by have := holesOf_len (p.syms.take k) 0; rw [List.length_take] at this; omega
      have HTL := hide (show 0 + (p.syms.take k).length = k by rw [List.length_take]; omega)
      have HBX := hide ((Below.refl wr.heap.size wr).alloc (Nat.le_refl _) (.cells #[.int .i64 kd, .string t, .int .u64 (st.w0 : Int), .int .u64 (st.w1 : Int), .int .u64 (st.w2 : Int), .int .u64 (st.w3 : Int), .string nm, .string sp] 61))
      have hbs := hh.out.b.size
      clear hx hts
      by_cases h1 : kd = 1
      · subst h1
        go_wp2_with fail
        go_roundg (p.syms.length - (k + 1))
        case measure => rw [hu.out]; omega
        case rel =>
          refine ⟨k + 1, hide rfl, by go_num, hide ⟨hlt, below_next hh.out.b HBX.out, ?_⟩⟩
          rw [HTS.out, HN.out]
          simp only [if_true, List.append_nil]
          exact own_below hh.out.o HBX.out
      · have n1 : (kd == 1) = false := by simpa using h1
        have n2 : (!kd == 1) = true := by rw [n1]; rfl
        have HK := hide h1
        have HO5 := hide (own_below hh.out.o HBX.out)
        clear h1
        go_wp2_with (at_builtin; refine wpList_append_own _ rfl _ _ 40 rfl w1.heap.size 3 i0 _ 1 8 Try.underlying40 hi hz0 hz1 hz2 rfl (by decide) _ _ (intsC (holesOf (p.syms.take k) 0)) rfl (HO5.out.alloc _) ⟨wr.heap.size + 1, 0, none⟩ 1 1 [.int .i64 (k : Int)] rfl rfl ?c1 ?c2 ?c3 ?c4 ?c5 ?_)
        case c2 => first | (intro y hy; simp at hy; subst hy; rfl) | rfl
        case c3 => unfold maxLen; omega
        case c4 => omega
        case c5 => first | omega | (simp; omega)
        intro v' w2 hown' hgrow _
        have HG := hide hgrow
        have HO := hide hown'
        clear hgrow hown'
        go_wp2_with fail
        go_roundg (p.syms.length - (k + 1))
        case measure => rw [hu.out]; omega
        case rel =>
          have hb2 := (below_next hh.out.b HBX.out).alloc (by simp; omega) (.cells #[.int .i64 (k : Int)] 3)
          refine ⟨k + 1, hide rfl, by go_num, hide ⟨hlt, hb2.grown HG.out hb2.size (fun g hg => own_block_ge HO5.out g hg), ?_⟩⟩
          rw [HTS.out, HN.out, if_neg HK.out, HTL.out]
          unfold OwnI
          rw [intsC_snoc, List.length_append]
          exact HO.out
    · have hlti : ¬ (k : Int) < (p.syms.length : Int) := by omega
      have hke : p.syms.take k = p.syms := List.take_of_length_le (by omega)
      have ho := hh.out.o
      rw [hke] at ho
      have HO := hide ho
      have HBB := hide (below_next HB0.out hh.out.b)
      clear hke ho
      go_wp2_with fail
      go_ret
      exact ⟨_, rfl, own_base HO.out HB0.out.size, HBB.out⟩
end Go.Proofs.Ytalicfpcmcbdbaa

set_option linter.unusedVariables false
set_option linter.unusedSimpArgs false
set_option linter.unnecessarySimpa false
set_option linter.deprecated false
namespace Go.Proofs.Ytalicfpcmcbdbaa
open Go.RowKit

def NatAt (n : Nat) (b o : Nat) (W : World) : Prop := W.cell? ⟨b, o, none⟩ = some (.int .i64 (n : Int))
theorem NatAt.stable : Stable NatAt := fun _ _ _ _ _ hb hlt h => (hb.cell (p := ⟨_, _, none⟩) hlt).trans h
theorem OwnI.row {B : Nat} {v : Value} {l : List Nat} {W : World} (h : OwnI B v l W) (hl : l.length ≤ 140737488351232) : ∃ a c, v = .slice a l.length c ∧ Row NatAt 1 l a W := by
  obtain ⟨a, c, e, hc⟩ := own_shape h
  refine ⟨a, c, e, hl, fun hn => ?_⟩
  obtain ⟨g, rfl, _, hg, hcell⟩ := hc (by simpa using hn)
  refine ⟨g, 0, rfl, hg, fun i hi => ?_⟩
  unfold NatAt
  rw [Nat.zero_add, Nat.mul_one]
  refine hcell i _ ?_
  unfold intsC
  rw [List.getElem?_map, List.getElem?_eq_getElem hi]
  rfl
theorem OwnI.below {B : Nat} {v : Value} {l : List Nat} {W W' : World} (h : OwnI B v l W) (hb : Below W.heap.size W W') : OwnI B v l W' := own_below h hb
set_option maxHeartbeats 800000 in
set_option maxRecDepth 100000 in
theorem rHoles_at (p : Pd) (ap : Option Addr) (cp : Nat) (w : World) (hr : Row SyAt 8 p.syms ap w) (hln : p.syms.length ≤ 100000) : Calls Try.prog 19 #[.agg #[.bool p.lex, .string p.sort, .string p.cons, .bool p.bracket, .slice ap p.syms.length cp]] w fun e w' => ∃ v, e = .returned v ∧ OwnI w.heap.size v (holesOf p.syms 0) w' ∧ Below w.heap.size w w' := by
  obtain ⟨i0, hi, hz0, hz1, hz2⟩ := info_parts info3
  have HB0 := hide ((Below.refl w.heap.size w).alloc (Nat.le_refl _) (.cells #[.bool p.lex, .string p.sort, .string p.cons, .bool p.bracket, .slice ap p.syms.length cp] 38))
  have HX0 := hide (Blk.new w #[.bool p.lex, .string p.sort, .string p.cons, .bool p.bracket, .slice ap p.syms.length cp] 38)
  have HR := hide (hr.below SyAt.stable HB0.out)
  have HI0 := hide (show HoR (w.alloc (.cells #[.bool p.lex, .string p.sort, .string p.cons, .bool p.bracket, .slice ap p.syms.length cp] 38)) p 0 (.slice none 0 0) _ from ⟨Nat.zero_le _, Below.refl _ _, World.ownsRow_nil _ _ _ _⟩)
  have hl0 := hr.1
  clear hr
  go_enter Try.func19, Try.ntmps19
  go_upto_region 2 with fail
  obtain ⟨kx, hkx⟩ : ∃ kx, w.heap.size = kx := ⟨_, rfl⟩
  have HKX := hide hkx
  obtain ⟨w1, h1⟩ : ∃ w1, w.alloc (.cells #[.bool p.lex, .string p.sort, .string p.cons, .bool p.bracket, .slice ap p.syms.length cp] 38) = w1 := ⟨_, rfl⟩
  rw [h1] at HR HI0 HB0 HX0 ⊢
  rw [hkx] at HX0 ⊢
  clear h1 hkx
  go_wp2_with fail
  go_loopg [3, 4] p.syms.length (fun u v3 v4 wr => ∃ k : Nat, Hid (u = p.syms.length - k) ∧ v4 = .int .i64 (k : Int) ∧ Hid (HoR w1 p k v3 wr))
  case atStart => exact ⟨0, hide rfl, rfl, HI0⟩
  case round =>
    obtain ⟨k, hu, rfl, hh⟩ := hrel
    have hkl := hh.out.le
    have x4 := (HX0.out.below hh.out.b).cell 4
    have xl := (HX0.out.below hh.out.b).lt
    by_cases hlt : k < p.syms.length
    · have hlti : (k : Int) < (p.syms.length : Int) := by omega
      obtain ⟨b, o, rfl, hb, hat⟩ := (HR.out.below SyAt.stable hh.out.b).get hlt
      have hx := hat k hlt
      have hts := take_snoc p.syms k hlt
      generalize p.syms[k] = x at hx hts
      clear hat
      obtain ⟨kd, t, st, nm, sp⟩ := x
      obtain ⟨e0, e1, e2, e3, e4, e5, e6, e7⟩ := hx.cells
      have HN := hide (holesOf_snoc (p.syms.take k) ⟨kd, t, st, nm, sp⟩ 0)
      have HTS := hide hts
      have hml : (holesOf (p.syms.take k) 0).length ≤ 100000 := by have := holesOf_len (p.syms.take k) 0; rw [List.length_take] at this; omega
      have HTL := hide (show 0 + (p.syms.take k).length = k by rw [List.length_take]; omega)
      have hbs := hh.out.b.size
      clear hx hts e1 e2 e3 e4 e5 e6 e7
      by_cases h1 : kd = 1
      · subst h1
        go_wp2_with fail
        go_roundg (p.syms.length - (k + 1))
        case measure => rw [hu.out]; omega
        case rel =>
          refine ⟨k + 1, hide rfl, by go_num, hide ⟨hlt, hh.out.b, ?_⟩⟩
          rw [HTS.out, HN.out]
          simp only [if_true, List.append_nil]
          exact hh.out.o
      · have n1 : (kd == 1) = false := by simpa using h1
        have n2 : (!kd == 1) = true := by rw [n1]; rfl
        have HK := hide h1
        have HO5 := hide hh.out.o
        clear h1
        go_wp2_with (at_builtin; refine wpList_append_own _ rfl _ _ 40 rfl w1.heap.size 3 i0 _ 1 8 Try.underlying40 hi hz0 hz1 hz2 rfl (by decide) _ _ (intsC (holesOf (p.syms.take k) 0)) rfl (HO5.out.alloc _) ⟨wr.heap.size, 0, none⟩ 1 1 [.int .i64 (k : Int)] rfl rfl ?c1 ?c2 ?c3 ?c4 ?c5 ?_)
        case c2 => first | (intro y hy; simp at hy; subst hy; rfl) | rfl
        case c3 => unfold maxLen; omega
        case c4 => omega
        case c5 => first | omega | (simp; omega)
        intro v' w2 hown' hgrow _
        have HG := hide hgrow
        have HO := hide hown'
        clear hgrow hown'
        go_wp2_with fail
        go_roundg (p.syms.length - (k + 1))
        case measure => rw [hu.out]; omega
        case rel =>
          have hb2 := hh.out.b.alloc (by omega) (.cells #[.int .i64 (k : Int)] 3)
          refine ⟨k + 1, hide rfl, by go_num, hide ⟨hlt, hb2.grown HG.out hb2.size (fun g hg => own_block_ge HO5.out g hg), ?_⟩⟩
          rw [HTS.out, HN.out, if_neg HK.out, HTL.out]
          unfold OwnI
          rw [intsC_snoc, List.length_append]
          exact HO.out
    · have hlti : ¬ (k : Int) < (p.syms.length : Int) := by omega
      have hke : p.syms.take k = p.syms := List.take_of_length_le (by omega)
      have ho := hh.out.o
      rw [hke] at ho
      have HO := hide ho
      have HBB := hide (below_next HB0.out hh.out.b)
      clear hke ho
      go_wp2_with fail
      go_ret
      exact ⟨_, rfl, own_base HO.out HB0.out.size, HBB.out⟩
set_option maxHeartbeats 800000 in
set_option maxRecDepth 100000 in
theorem sameInts_eq (l : List Nat) (a b : Option Addr) (c e : Nat) (w : World) (ha : Row NatAt 1 l a w) (hb : Row NatAt 1 l b w) : Calls Try.prog 17 #[.slice a l.length c, .slice b l.length e] w fun e w' => e = .returned (.bool true) ∧ Below w.heap.size w w' := by
  have HA := hide ha
  have HB := hide hb
  have hln := ha.1
  clear ha hb
  go_enter Try.func17, Try.ntmps17
  go_wp2_with fail
  go_loopg [5] l.length (fun u v5 wr => ∃ k : Nat, Hid (u = l.length - k) ∧ v5 = .int .i64 (k : Int) ∧ Hid (k ≤ l.length ∧ Below w.heap.size w wr))
  case atStart => exact ⟨0, hide rfl, rfl, hide ⟨Nat.zero_le _, Below.refl _ _⟩⟩
  case round =>
    obtain ⟨k, hu, rfl, hh⟩ := hrel
    have hkl := hh.out.1
    by_cases hlt : k < l.length
    · have hlti : (k : Int) < (l.length : Int) := by omega
      obtain ⟨b1, o1, rfl, hb1, hat1⟩ := (HA.out.below NatAt.stable hh.out.2).get hlt
      obtain ⟨b2, o2, rfl, hb2, hat2⟩ := (HB.out.below NatAt.stable hh.out.2).get hlt
      have hx1 := hat1 k hlt
      have hx2 := hat2 k hlt
      rw [Nat.mul_one] at hx1 hx2
      unfold NatAt at hx1 hx2
      generalize l[k] = n at hx1 hx2
      clear hat1 hat2
      go_upto_region 6 with fail
      go_quiet (fail)
      go_wp2_with fail
      go_roundg (l.length - (k + 1))
      case measure => rw [hu.out]; omega
      case rel => exact ⟨k + 1, hide rfl, by go_num, hide ⟨hlt, hh.out.2.trans ⟨rfl, rfl, rfl, Nat.le_refl _, fun _ _ => rfl⟩⟩⟩
    · have hlti : ¬ (k : Int) < (l.length : Int) := by omega
      go_wp2_with fail
      go_ret
      exact ⟨rfl, hh.out.2⟩
end Go.Proofs.Ytalicfpcmcbdbaa

set_option linter.unusedVariables false
set_option linter.unusedSimpArgs false
set_option linter.unnecessarySimpa false
set_option linter.deprecated false
namespace Go.Proofs.Ytalicfpcmcbdbaa
open Go.RowKit

/-- The places from b on and then from the beginning. -/
def rotI (n b : Nat) (k : Nat) : List Nat := (List.range k).map (fun i => (i + b) % n)
theorem tmod_gt (y : Int) {n : Int} (h : 0 < n) : -n < y.tmod n := by
  rcases Int.le_total 0 y with h0 | h0
  · have := Int.tmod_nonneg n h0; omega
  · have h1 := Int.tmod_lt_of_pos (-y) h
    rw [Int.neg_tmod] at h1; omega
theorem rotI_len (n b k : Nat) : (rotI n b k).length = k := by unfold rotI; simp
theorem rotI_snoc (n b k : Nat) : rotI n b (k + 1) = rotI n b k ++ [(k + b) % n] := by unfold rotI; rw [List.range_succ, List.map_append]; rfl
set_option maxHeartbeats 800000 in
set_option maxRecDepth 100000 in
theorem turn_any (n : Nat) (y : Int) (hy : i64 y) (hn : n ≤ 100000) (w : World) : Calls Try.prog 20 #[.int .i64 (n : Int), .int .i64 y] w fun e w' => ∃ b v, e = .returned v ∧ (0 < n → b < n) ∧ OwnI w.heap.size v (rotI n b n) w' ∧ Below w.heap.size w w' := by
  obtain ⟨i0, hi, hz0, hz1, hz2⟩ := info_parts info3
  have hy2 : -9223372036854775808 ≤ y ∧ y ≤ 9223372036854775807 := hy
  go_enter Try.func20, Try.ntmps20
  by_cases h0 : n = 0
  · subst h0
    have hgt : ¬ ((0 : Nat) : Int) > 0 := by simp
    go_wp2_with fail
    go_loopg [5, 6] 0 (fun u v5 v6 wr => v6 = .int .i64 0 ∧ v5 = .slice none 0 0 ∧ w = wr)
    case atStart => exact ⟨rfl, rfl, rfl⟩
    case round =>
      obtain ⟨rfl, rfl, rfl⟩ := hrel
      go_wp2_with fail
      go_ret
      exact ⟨0, _, rfl, fun h => h, World.ownsRow_nil _ _ _ _, Below.refl _ _⟩
  · have hgt : (n : Int) > 0 := by omega
    have hnz : ¬ (n : Int) = 0 := by omega
    obtain ⟨b, hbn, hbz⟩ : ∃ b : Nat, b < n ∧ (wrap64 (y.tmod (n : Int) + (n : Int))).tmod (n : Int) = (b : Int) := by
      have hpos : (0 : Int) < (n : Int) := by omega
      have h1 : y.tmod (n : Int) < (n : Int) := Int.tmod_lt_of_pos y hpos
      have h2 : -(n : Int) < y.tmod (n : Int) := tmod_gt y hpos
      have h3 : wrap64 (y.tmod (n : Int) + (n : Int)) = y.tmod (n : Int) + (n : Int) := by unfold wrap64; omega
      rw [h3]
      have h4 : 0 ≤ (y.tmod (n : Int) + (n : Int)).tmod (n : Int) := Int.tmod_nonneg _ (by omega)
      have h5 : (y.tmod (n : Int) + (n : Int)).tmod (n : Int) < (n : Int) := Int.tmod_lt_of_pos _ hpos
      exact ⟨((y.tmod (n : Int) + (n : Int)).tmod (n : Int)).toNat, by omega, by omega⟩
    have hgd : decide (0 < n) = true := decide_eq_true (by omega)
    go_upto_region 4 with fail
    have HBN := hide hbn
    clear hbz
    go_wp2_with fail
    go_loopg [5, 6] n (fun u v5 v6 wr => ∃ k : Nat, Hid (u = n - k) ∧ v6 = .int .i64 (k : Int) ∧ Hid (k ≤ n ∧ Below w.heap.size w wr ∧ OwnI w.heap.size v5 (rotI n b k) wr))
    case atStart => exact ⟨0, hide rfl, rfl, hide ⟨Nat.zero_le _, Below.refl _ _, World.ownsRow_nil _ _ _ _⟩⟩
    case round =>
      obtain ⟨k, hu, rfl, hh⟩ := hrel
      have hkl := hh.out.1
      by_cases hlt : k < n
      · have hlti : (k : Int) < (n : Int) := by omega
        have hmod : ((k : Int) + (b : Int)).tmod (n : Int) = (((k + b) % n : Nat) : Int) := by
          rw [← Int.natCast_add, ← Int.ofNat_tmod]
        have hsn := rotI_snoc n b k
        obtain ⟨r, hr⟩ : ∃ r, (k + b) % n = r := ⟨_, rfl⟩
        rw [hr] at hmod hsn
        have HSN := hide hsn
        have HOW := hide hh.out.2.2
        have hml : (rotI n b k).length ≤ 100000 := by rw [rotI_len]; omega
        have hbs := hh.out.2.1.size
        have hbk : b ≤ 100000 := by omega
        have HLEN := hide (rotI_len n b k)
        clear hsn hr
        generalize rotI n b k = l0 at HOW HSN hml HLEN ⊢
        go_wp2_with (at_builtin; refine wpList_append_own _ rfl _ _ 40 rfl w.heap.size 3 i0 _ 1 8 Try.underlying40 hi hz0 hz1 hz2 rfl (by decide) _ _ (intsC l0) rfl (HOW.out.alloc _) ⟨wr.heap.size, 0, none⟩ 1 1 [.int .i64 (r : Int)] rfl rfl (cells_at _ _ _ _ rfl) (by intro y hy; simp at hy; subst hy; rfl) (by unfold maxLen; omega) (by omega) (by simp; omega) ?_)
        intro v' w7 hown' hgrow _
        have HG := hide hgrow
        have HO := hide hown'
        clear hgrow hown'
        go_wp2_with fail
        go_roundg (n - (k + 1))
        case measure => rw [hu.out]; omega
        case rel =>
          have hb2 := hh.out.2.1.alloc hh.out.2.1.size (.cells #[.int .i64 (r : Int)] 3)
          refine ⟨k + 1, hide rfl, by go_num, hide ⟨hlt, hb2.grown HG.out hb2.size (fun g hg => own_block_ge HOW.out g hg), ?_⟩⟩
          rw [HSN.out]
          unfold OwnI
          rw [intsC_snoc, List.length_append]
          exact HO.out
      · have hlti : ¬ (k : Int) < (n : Int) := by omega
        have HO := hide hh.out.2.2
        rw [show k = n by omega] at HO
        go_wp2_with fail
        go_ret
        exact ⟨b, _, rfl, by first | exact HBN.out | exact fun _ => HBN.out, HO.out, hh.out.2.1⟩
end Go.Proofs.Ytalicfpcmcbdbaa
