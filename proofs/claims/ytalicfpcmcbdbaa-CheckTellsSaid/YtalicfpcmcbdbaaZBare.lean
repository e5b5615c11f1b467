/- The walk of bare. -/
import Derived.Test.YtalicfpcmcbdbaaZNames
import Derived.Test.YtalicfpcmcbdbaaZLeft
set_option linter.unusedVariables false
set_option linter.unusedSimpArgs false
set_option linter.unnecessarySimpa false
set_option linter.deprecated false
namespace Go.Proofs.Ytalicfpcmcbdbaa
open Go.RowKit

theorem info61 : (Try.prog.info? 61).map (fun i => (i.zero, i.size, i.bytes)) = some (some (.agg #[.int .i64 0, .string ⟨#[]⟩, .int .u64 0, .int .u64 0, .int .u64 0, .int .u64 0, .string ⟨#[]⟩, .string ⟨#[]⟩]), 8, 88) := by kernel_rfl
def symsC (l : List Sy) : List Value := l.flatMap syC
theorem symsC_snoc (l : List Sy) (x : Sy) : symsC (l ++ [x]) = symsC l ++ syC x := by unfold symsC; rw [List.flatMap_append]; simp
/-- The symbols that may not be left out. -/
def mustOf (l : List Sy) : List Sy := l.filter (fun s => !leftB s)
theorem mustOf_snoc (l : List Sy) (s : Sy) : mustOf (l ++ [s]) = if leftB s = true then mustOf l else mustOf l ++ [s] := by
  unfold mustOf
  rw [List.filter_append]
  cases h : leftB s <;> simp [h]
theorem mustOf_len (l : List Sy) : (mustOf l).length ≤ l.length := List.length_filter_le _ _
/-- The sort of which a production's text may be one alone. -/
def bareL (p : Pd) : List ByteArray := match mustOf p.syms with
  | [s] => if (s.kind = 3 ∨ s.kind = 6) ∧ emp s.name = false then [s.name] else []
  | _ => []
structure BrR (w1 : World) (p : Pd) (k : Nat) (v : Value) (wr : World) : Prop where
  le : k ≤ p.syms.length
  b : Below w1.heap.size w1 wr
  o : wr.ownsRow w1.heap.size 61 8 v (mustOf (p.syms.take k)).length (symsC (mustOf (p.syms.take k)))

set_option maxHeartbeats 4000000 in
set_option maxRecDepth 100000 in
theorem bare_at (p : Pd) (ap : Option Addr) (cp : Nat) (w : World) (hr : Row SyAt 8 p.syms ap w) (hln : p.syms.length ≤ 100000) : Calls Try.prog 73 #[.agg #[.bool p.lex, .string p.sort, .string p.cons, .bool p.bracket, .slice ap p.syms.length cp]] w fun e w' => ∃ v, e = .returned v ∧ OwnS w.heap.size v (bareL p) w' ∧ Below w.heap.size w w' := by
  obtain ⟨i0, hi, hz0, hz1, hz2⟩ := info_parts info61
  have HB0 := hide ((Below.refl w.heap.size w).alloc (Nat.le_refl _) (.cells #[.bool p.lex, .string p.sort, .string p.cons, .bool p.bracket, .slice ap p.syms.length cp] 38))
  have HR := hide (hr.below SyAt.stable HB0.out)
  have HI0 := hide (show BrR (w.alloc (.cells #[.bool p.lex, .string p.sort, .string p.cons, .bool p.bracket, .slice ap p.syms.length cp] 38)) p 0 (.slice none 0 0) _ from ⟨Nat.zero_le _, Below.refl _ _, World.ownsRow_nil _ _ _ _⟩)
  clear hr
  obtain ⟨bl, hbl⟩ : ∃ bl, bareL p = bl := ⟨_, rfl⟩
  rw [hbl]
  have HBL := hide hbl
  clear hbl
  go_enter Try.func73, Try.ntmps73
  go_wp2_with fail
  generalize w.alloc (.cells #[.bool p.lex, .string p.sort, .string p.cons, .bool p.bracket, .slice ap p.syms.length cp] 38) = w1 at HR HI0 HB0 ⊢
  go_loopg [3, 9] p.syms.length (fun u v3 v9 wr => ∃ k : Nat, Hid (u = p.syms.length - k) ∧ v9 = .int .i64 (k : Int) ∧ Hid (BrR w1 p k v3 wr))
  case atStart => exact ⟨0, hide rfl, rfl, HI0⟩
  case round =>
    obtain ⟨k, hu, rfl, hh⟩ := hrel
    have hkl := hh.out.le
    by_cases hlt : k < p.syms.length
    · have hlti : (k : Int) < (p.syms.length : Int) := by omega
      obtain ⟨b, o, rfl, hb, hat⟩ := (HR.out.below SyAt.stable hh.out.b).get hlt
      have hx := hat k hlt
      have hts := take_snoc p.syms k hlt
      generalize p.syms[k] = x at hx hts
      clear hat
      obtain ⟨e0, e1, e2, e3, e4, e5, e6, e7⟩ := hx.cells
      have HN := hide (mustOf_snoc (p.syms.take k) x)
      have HTS := hide hts
      have hml : (mustOf (p.syms.take k)).length ≤ 100000 := by have := mustOf_len (p.syms.take k); rw [List.length_take] at this; omega
      have HXN := hide (Blk.new wr #[.int .i64 x.kind, .string x.text, .int .u64 (x.set.w0 : Int), .int .u64 (x.set.w1 : Int), .int .u64 (x.set.w2 : Int), .int .u64 (x.set.w3 : Int), .string x.name, .string x.sep] 61)
      have HBX := hide ((Below.refl wr.heap.size wr).alloc (Nat.le_refl _) (.cells #[.int .i64 x.kind, .string x.text, .int .u64 (x.set.w0 : Int), .int .u64 (x.set.w1 : Int), .int .u64 (x.set.w2 : Int), .int .u64 (x.set.w3 : Int), .string x.name, .string x.sep] 61))
      have HL := hide (fun W => left_any x W)
      have hbs := hh.out.b.size
      clear hx hts
      cases hlf : leftB x with
      | true =>
        rw [hlf] at HL
        have HLF := hide hlf
        clear hlf
        go_wp2_with (go_at_call 72; refine (HL.out _).mono ?_; rintro e w' ⟨rfl, hb'⟩)
        go_roundg (p.syms.length - (k + 1))
        case measure => rw [hu.out]; omega
        case rel =>
          have hbw := below_next HBX.out hb'
          refine ⟨k + 1, hide rfl, by go_num, hide ⟨hlt, below_next hh.out.b hbw, ?_⟩⟩
          rw [HTS.out, HN.out, if_pos HLF.out]
          exact own_below hh.out.o hbw
      | false =>
        rw [hlf] at HL
        have HLF := hide hlf
        clear hlf
        go_wp2_with fail
        refine (HL.out _).mono ?_
        rintro e w5 ⟨rfl, hb5⟩
        have HBW := hide (below_next HBX.out hb5)
        have hx5 := HXN.out.below hb5
        have f0 := hx5.cell 0
        have f1 := hx5.cell 1
        have f2 := hx5.cell 2
        have f3 := hx5.cell 3
        have f4 := hx5.cell 4
        have f5 := hx5.cell 5
        have f6 := hx5.cell 6
        have f7 := hx5.cell 7
        have fl := hx5.lt
        have hs5 := HBW.out.size
        clear hx5 hb5 e0 e1 e2 e3 e4 e5 e6 e7 hb
        have HO5 := hide (own_below hh.out.o HBW.out)
        go_wp2_with (at_builtin; refine wpList_append_own _ rfl _ _ 36 rfl w1.heap.size 61 i0 _ 8 88 Try.underlying36 hi hz0 hz1 hz2 rfl (by decide) _ _ (symsC (mustOf (p.syms.take k))) rfl (HO5.out.alloc _) ⟨w5.heap.size, 0, none⟩ 1 1 (syC x) rfl rfl ?c1 ?c2 ?c3 ?c4 ?c5 ?_)
        case c1 => exact cells_at _ _ _ _ rfl
        case c2 => simp [syC, Value.oneCell']
        case c3 => unfold maxLen; omega
        case c4 => omega
        case c5 => simp; omega
        intro v' w2 hown' hgrow _
        have HG := hide hgrow
        have HO := hide hown'
        clear hgrow hown'
        go_wp2_with fail
        go_roundg (p.syms.length - (k + 1))
        case measure => rw [hu.out]; omega
        case rel =>
          have hb2 := (below_next hh.out.b HBW.out).alloc (by omega) (.cells #[.int .i64 x.kind, .string x.text, .int .u64 (x.set.w0 : Int), .int .u64 (x.set.w1 : Int), .int .u64 (x.set.w2 : Int), .int .u64 (x.set.w3 : Int), .string x.name, .string x.sep] 61)
          refine ⟨k + 1, hide rfl, by go_num, hide ⟨hlt, hb2.grown HG.out hb2.size (fun g hg => own_block_ge HO5.out g hg), ?_⟩⟩
          rw [HTS.out, HN.out, if_neg (by rw [HLF.out]; decide), symsC_snoc, List.length_append]
          exact HO.out
    · have hlti : ¬ (k : Int) < (p.syms.length : Int) := by omega
      have hke : p.syms.take k = p.syms := List.take_of_length_le (by omega)
      have ho := hh.out.o
      rw [hke] at ho
      have HBB := hide (below_next HB0.out hh.out.b)
      have hsz := hh.out.b.size
      have hml : (mustOf p.syms).length ≤ 100000 := by have := mustOf_len p.syms; omega
      have HSZ := hide (show w.heap.size ≤ wr.heap.size from HBB.out.size)
      have HALLS := hide (show ∀ s ∈ mustOf p.syms, short s.name from fun s hs => by
        obtain ⟨i, hi2, e⟩ := List.mem_iff_getElem.1 (List.mem_filter.1 hs).1
        obtain ⟨b, o, _, _, hat⟩ := HR.out.get hi2
        have := (hat i hi2).1.n
        rw [e] at this
        exact this)
      clear hh hke hkl
      have hbl := HBL.out
      unfold bareL at hbl
      generalize mustOf p.syms = l at ho hml HALLS hbl
      match l, ho, hml, HALLS, hbl with
      | [], ho, hml, HALLS, hbl =>
        have hbl : [] = bl := hbl
        have HB2 := hide hbl
        clear hbl
        obtain ⟨a3, c3, rfl, _⟩ := own_shape ho
        clear ho
        go_wp2_with fail
        go_ret
        exact ⟨_, rfl, by rw [← HB2.out]; exact OwnS.nil _ _, HBB.out⟩
      | s :: t :: r, ho, hml, HALLS, hbl =>
        have hbl : [] = bl := hbl
        have HB2 := hide hbl
        clear hbl
        obtain ⟨a3, c3, rfl, _⟩ := own_shape ho
        have hl1 : (((s :: t :: r).length : Int) == 1) = false := by simp; omega
        have HL2 := hide hl1
        generalize (s :: t :: r).length = q at hl1 ho ⊢
        clear ho
        go_wp2_with fail
        go_ret
        exact ⟨_, rfl, by rw [← HB2.out]; exact OwnS.nil _ _, HBB.out⟩
      | [s], ho, hml, HALLS, hbl =>
        obtain ⟨g3, c3, rfl, _, hg3, _, hcell⟩ := own_at ho (by simp)
        have e0 : wr.cell? ⟨g3, 0, none⟩ = some (.int .i64 s.kind) := hcell 0 _ rfl
        have e6 : wr.cell? ⟨g3, 6, none⟩ = some (.string s.name) := hcell 6 _ rfl
        have HSN := hide (HALLS.out s (by simp))
        obtain ⟨kd, t, st, nm, sp⟩ := s
        replace e0 : wr.cell? ⟨g3, 0, none⟩ = some (.int .i64 kd) := e0
        replace e6 : wr.cell? ⟨g3, 6, none⟩ = some (.string nm) := e6
        clear hcell ho HALLS
        replace HSN : Hid (short nm) := HSN
        have hbl : (if (kd = 3 ∨ kd = 6) ∧ emp nm = false then [nm] else []) = bl := hbl
        have HB1 := hide hbl
        clear hbl
        by_cases h3 : kd = 3
        · subst h3
          rcases emp_or nm with ⟨bn, zn, y1, y2, y3⟩ | ⟨bn, zn, y1, y2, y3⟩
          · have HB2 := hide (show [] = bl by rw [← HB1.out, if_neg (by rw [zn.out]; simp)])
            go_wp2_with fail
            go_ret
            exact ⟨_, rfl, by rw [← HB2.out]; exact OwnS.nil _ _, HBB.out⟩
          · have HB2 := hide (show [nm] = bl by rw [← HB1.out, if_pos ⟨by simp, zn.out⟩])
            go_wp2_with fail
            go_ret
            exact ⟨_, rfl, by rw [← HB2.out]; exact (OwnS.one wr nm HSN.out).base HSZ.out, HBB.out.alloc HBB.out.size _⟩
        have n3 : (kd == 3) = false := by simpa using h3
        by_cases h6 : kd = 6
        · subst h6
          clear h3 n3
          rcases emp_or nm with ⟨bn, zn, y1, y2, y3⟩ | ⟨bn, zn, y1, y2, y3⟩
          · have HB2 := hide (show [] = bl by rw [← HB1.out, if_neg (by rw [zn.out]; simp)])
            go_wp2_with fail
            go_ret
            exact ⟨_, rfl, by rw [← HB2.out]; exact OwnS.nil _ _, HBB.out⟩
          · have HB2 := hide (show [nm] = bl by rw [← HB1.out, if_pos ⟨by simp, zn.out⟩])
            go_wp2_with fail
            go_ret
            exact ⟨_, rfl, by rw [← HB2.out]; exact (OwnS.one wr nm HSN.out).base HSZ.out, HBB.out.alloc HBB.out.size _⟩
        have n6 : (kd == 6) = false := by simpa using h6
        have HB2 := hide (show [] = bl by rw [← HB1.out, if_neg (by rintro ⟨h | h, _⟩ <;> contradiction)])
        clear h3 h6
        go_wp2_with fail
        go_ret
        exact ⟨_, rfl, by rw [← HB2.out]; exact OwnS.nil _ _, HBB.out⟩
end Go.Proofs.Ytalicfpcmcbdbaa
