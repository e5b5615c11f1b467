/- The walk of Holes. -/
import Derived.Test.YtalicfpcmcbdbaaZNames
import Derived.Test.YtalicfpcmcbdbaaZLeft
set_option linter.unusedVariables false
set_option linter.unusedSimpArgs false
set_option linter.unnecessarySimpa false
set_option linter.deprecated false
namespace Go.Proofs.Ytalicfpcmcbdbaa
open Go.RowKit

theorem info3 : (Try.prog.info? 3).map (fun i => (i.zero, i.size, i.bytes)) = some (some (.int .i64 0), 1, 8) := by kernel_rfl
def intsC (l : List Nat) : List Value := l.map (fun (n : Nat) => Value.int .i64 (n : Int))
theorem intsC_snoc (l : List Nat) (n : Nat) : intsC (l ++ [n]) = intsC l ++ [.int .i64 (n : Int)] := by simp [intsC]
def OwnI (B : Nat) (v : Value) (l : List Nat) (W : World) : Prop := W.ownsRow B 3 1 v l.length (intsC l)
/-- The places of the symbols that are no literals. -/
def holesOf : List Sy → Nat → List Nat
  | [], _ => []
  | s :: r, k => if s.kind = 1 then holesOf r (k + 1) else k :: holesOf r (k + 1)
theorem holesOf_snoc : ∀ (l : List Sy) (s : Sy) (k : Nat), holesOf (l ++ [s]) k = holesOf l k ++ (if s.kind = 1 then [] else [k + l.length])
  | [], s, k => by rw [List.nil_append, holesOf]; by_cases h : s.kind = 1 <;> simp [h, holesOf]
  | x :: l, s, k => by
    rw [List.cons_append, holesOf, holesOf, holesOf_snoc l s (k + 1)]
    rw [show k + 1 + l.length = k + (x :: l).length by rw [List.length_cons]; omega]
    split <;> simp
theorem holesOf_len : ∀ (l : List Sy) (k : Nat), (holesOf l k).length ≤ l.length
  | [], k => by simp [holesOf]
  | x :: l, k => by
    have := holesOf_len l (k + 1)
    rw [holesOf]
    split <;> simp <;> omega
structure HoR (w1 : World) (p : Pd) (k : Nat) (v : Value) (wr : World) : Prop where
  le : k ≤ p.syms.length
  b : Below w1.heap.size w1 wr
  o : OwnI w1.heap.size v (holesOf (p.syms.take k) 0) wr
set_option maxHeartbeats 4000000 in
set_option maxRecDepth 100000 in
theorem Holes_at (p : Pd) (ap : Option Addr) (cp : Nat) (w : World) (hr : Row SyAt 8 p.syms ap w) (hln : p.syms.length ≤ 100000) : Calls Try.prog 18 #[.agg #[.bool p.lex, .string p.sort, .string p.cons, .bool p.bracket, .slice ap p.syms.length cp]] w fun e w' => ∃ v, e = .returned v ∧ OwnI w.heap.size v (holesOf p.syms 0) w' ∧ Below w.heap.size w w' := by
  obtain ⟨i0, hi, hz0, hz1, hz2⟩ := info_parts info3
  have HB0 := hide ((Below.refl w.heap.size w).alloc (Nat.le_refl _) (.cells #[.bool p.lex, .string p.sort, .string p.cons, .bool p.bracket, .slice ap p.syms.length cp] 38))
  have HR := hide (hr.below SyAt.stable HB0.out)
  have HI0 := hide (show HoR (w.alloc (.cells #[.bool p.lex, .string p.sort, .string p.cons, .bool p.bracket, .slice ap p.syms.length cp] 38)) p 0 (.slice none 0 0) _ from ⟨Nat.zero_le _, Below.refl _ _, World.ownsRow_nil _ _ _ _⟩)
  clear hr
  go_enter Try.func18, Try.ntmps18
  go_wp2_with fail
  generalize w.alloc (.cells #[.bool p.lex, .string p.sort, .string p.cons, .bool p.bracket, .slice ap p.syms.length cp] 38) = w1 at HR HI0 HB0 ⊢
  go_loopg [3, 9] p.syms.length (fun u v3 v9 wr => ∃ k : Nat, Hid (u = p.syms.length - k) ∧ v9 = .int .i64 (k : Int) ∧ Hid (HoR w1 p k v3 wr))
  case atStart => exact ⟨0, hide rfl, rfl, HI0⟩
  case round =>
    obtain ⟨k, hu, rfl, hh⟩ := hrel
    have hkl := hh.out.le
    by_cases hlt : k < p.syms.length
    · have hlti : (k : Int) < (p.syms.length : Int) := by omega
      obtain ⟨b, o, rfl, hb, hat⟩ := (HR.out.below SyAt.stable hh.out.b).get hlt
      have hx := hat k hlt
      have hts := take_snoc p.syms k hlt
      generalize p.syms[k] = x at hx hts
      clear hat
      obtain ⟨kd, t, st, nm, sp⟩ := x
      obtain ⟨e0, e1, e2, e3, e4, e5, e6, e7⟩ := hx.cells
      have HN := hide (holesOf_snoc (p.syms.take k) ⟨kd, t, st, nm, sp⟩ 0)
      have HTS := hide hts
      have hml : (holesOf (p.syms.take k) 0).length ≤ 100000 := by have := holesOf_len (p.syms.take k) 0; rw [List.length_take] at this; omega
      have HTL := hide (show 0 + (p.syms.take k).length = k by rw [List.length_take]; omega)
      have HBX := hide ((Below.refl wr.heap.size wr).alloc (Nat.le_refl _) (.cells #[.int .i64 kd, .string t, .int .u64 (st.w0 : Int), .int .u64 (st.w1 : Int), .int .u64 (st.w2 : Int), .int .u64 (st.w3 : Int), .string nm, .string sp] 61))
      have hbs := hh.out.b.size
      clear hx hts
      by_cases h1 : kd = 1
      · subst h1
        go_wp2_with fail
        go_roundg (p.syms.length - (k + 1))
        case measure => rw [hu.out]; omega
        case rel =>
          refine ⟨k + 1, hide rfl, by go_num, hide ⟨hlt, below_next hh.out.b HBX.out, ?_⟩⟩
          rw [HTS.out, HN.out]
          simp only [if_true, List.append_nil]
          exact own_below hh.out.o HBX.out
      · have n1 : (kd == 1) = false := by simpa using h1
        have n2 : (!kd == 1) = true := by rw [n1]; rfl
        have HK := hide h1
        have HO5 := hide (own_below hh.out.o HBX.out)
        clear h1
        go_wp2_with (at_builtin; refine wpList_append_own _ rfl _ _ 40 rfl w1.heap.size 3 i0 _ 1 8 Try.underlying40 hi hz0 hz1 hz2 rfl (by decide) _ _ (intsC (holesOf (p.syms.take k) 0)) rfl (HO5.out.alloc _) ⟨wr.heap.size + 1, 0, none⟩ 1 1 [.int .i64 (k : Int)] rfl rfl ?c1 ?c2 ?c3 ?c4 ?c5 ?_)
        case c2 => first | (intro y hy; simp at hy; subst hy; rfl) | rfl
        case c3 => unfold maxLen; omega
        case c4 => omega
        case c5 => first | omega | (simp; omega)
        intro v' w2 hown' hgrow _
        have HG := hide hgrow
        have HO := hide hown'
        clear hgrow hown'
        go_wp2_with fail
        go_roundg (p.syms.length - (k + 1))
        case measure => rw [hu.out]; omega
        case rel =>
          have hb2 := (below_next hh.out.b HBX.out).alloc (by simp; omega) (.cells #[.int .i64 (k : Int)] 3)
          refine ⟨k + 1, hide rfl, by go_num, hide ⟨hlt, hb2.grown HG.out hb2.size (fun g hg => own_block_ge HO5.out g hg), ?_⟩⟩
          rw [HTS.out, HN.out, if_neg HK.out, HTL.out]
          unfold OwnI
          rw [intsC_snoc, List.length_append]
          exact HO.out
    · have hlti : ¬ (k : Int) < (p.syms.length : Int) := by omega
      have hke : p.syms.take k = p.syms := List.take_of_length_le (by omega)
      have ho := hh.out.o
      rw [hke] at ho
      have HO := hide ho
      have HBB := hide (below_next HB0.out hh.out.b)
      clear hke ho
      go_wp2_with fail
      go_ret
      exact ⟨_, rfl, own_base HO.out HB0.out.size, HBB.out⟩
end Go.Proofs.Ytalicfpcmcbdbaa
