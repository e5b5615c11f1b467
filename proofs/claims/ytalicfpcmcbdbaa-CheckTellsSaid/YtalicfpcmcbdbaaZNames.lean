/- The walk of named. The walk of names. -/
import Derived.Test.YtalicfpcmcbdbaaZMapF
import Derived.Test.YtalicfpcmcbdbaaZWords
set_option linter.unusedVariables false
set_option linter.unusedSimpArgs false
set_option linter.unnecessarySimpa false
set_option linter.deprecated false
namespace Go.Proofs.Ytalicfpcmcbdbaa
open Go.RowKit

/-- Is a string empty? -/
def emp (s : ByteArray) : Bool := s.toList.isEmpty
theorem emp_or (s : ByteArray) : (∃ b, Hid (emp s = true) ∧ s.toList.isEmpty = b ∧ b = true ∧ s.toList = []) ∨ (∃ b, Hid (emp s = false) ∧ s.toList.isEmpty = b ∧ b = false ∧ ¬ s.toList = []) := by
  cases h : s.toList.isEmpty with
  | true => exact Or.inl ⟨true, h, rfl, rfl, by simpa using h⟩
  | false => exact Or.inr ⟨false, h, rfl, rfl, by intro e; rw [e] at h; cases h⟩
def namedB (s : ByteArray) (e : Bool) : Bool := emp s && e || isNameL s.data.toList
set_option maxHeartbeats 4000000 in
set_option maxRecDepth 100000 in
theorem named_any (s : ByteArray) (e : Bool) (w : World) (hs : short s) : Calls Try.prog 84 #[.string s, .bool e] w fun r w' => r = .returned (.bool (namedB s e)) ∧ Below w.heap.size w w' := by
  have HN := hide (fun W => isName_any s W hs)
  rcases emp_or s with ⟨b, z, z1, z2, z3⟩ | ⟨b, z, z1, z2, z3⟩ <;> cases e
  all_goals
    go_enter Try.func84, Try.ntmps84
    go_wp2_with (go_at_call 99; refine (HN.out _).mono ?_; rintro e w' ⟨rfl, hb⟩)
    go_ret
    first
    | exact ⟨ret_bool (by unfold namedB; rw [z.out]; rfl), hb⟩
    | exact ⟨ret_bool (by unfold namedB; rw [z.out]; rfl), Below.refl _ _⟩
end Go.Proofs.Ytalicfpcmcbdbaa

set_option linter.unusedVariables false
set_option linter.unusedSimpArgs false
set_option linter.unnecessarySimpa false
set_option linter.deprecated false
namespace Go.Proofs.Ytalicfpcmcbdbaa
open Go.RowKit

theorem info9 : (Try.prog.info? 9).map (fun i => (i.zero, i.size, i.bytes)) = some (some (.string ⟨#[]⟩), 1, 16) := by kernel_rfl
def strsC (l : List ByteArray) : List Value := l.map Value.string
theorem strsC_snoc (l : List ByteArray) (s : ByteArray) : strsC (l ++ [s]) = strsC l ++ [.string s] := by simp [strsC]
theorem strsC_app (l m : List ByteArray) : strsC (l ++ m) = strsC l ++ strsC m := by simp [strsC]
theorem strsC_one {l : List ByteArray} : ∀ u ∈ strsC l, u.oneCell' = true := by
  intro u hu
  obtain ⟨s, _, rfl⟩ := List.mem_map.1 hu
  rfl
/-- A row of strings of the call's own. -/
def OwnS (B : Nat) (v : Value) (l : List ByteArray) (W : World) : Prop := W.ownsRow B 9 1 v l.length (strsC l) ∧ ∀ s ∈ l, short s
theorem OwnS.below {B : Nat} {v : Value} {l : List ByteArray} {W W' : World} (h : OwnS B v l W) (hb : Below W.heap.size W W') : OwnS B v l W' := ⟨own_below h.1 hb, h.2⟩
theorem OwnS.nil (B : Nat) (W : World) : OwnS B (.slice none 0 0) [] W := ⟨World.ownsRow_nil _ _ _ _, fun s h => by cases h⟩
theorem OwnS.base {B B' : Nat} {v : Value} {l : List ByteArray} {W : World} (h : OwnS B v l W) (hB : B' ≤ B) : OwnS B' v l W := ⟨own_base h.1 hB, h.2⟩
/-- It reads as a row. -/
theorem OwnS.row {B : Nat} {v : Value} {l : List ByteArray} {W : World} (h : OwnS B v l W) (hl : l.length ≤ 140737488351232) : ∃ a c, v = .slice a l.length c ∧ Row StrAt 1 l a W := by
  obtain ⟨a, c, e, hc⟩ := own_shape h.1
  refine ⟨a, c, e, hl, fun hn => ?_⟩
  obtain ⟨g, rfl, _, hg, hcell⟩ := hc (by simpa using hn)
  refine ⟨g, 0, rfl, hg, fun i hi => ⟨h.2 _ (List.getElem_mem hi), ?_⟩⟩
  rw [Nat.zero_add, Nat.mul_one]
  refine hcell i _ ?_
  unfold strsC
  rw [List.getElem?_map, List.getElem?_eq_getElem hi]
  rfl
theorem own_block_ge {w : World} {B n size : Nat} {e : TypeId} {v : Value} {xs : List Value} (h : w.ownsRow B e size v n xs) : ∀ g, v.ownBlock = some g → B ≤ g := by
  intro g hg
  rcases h.2 with ⟨rfl, _⟩ | ⟨g', cap, cur, rfl, hB, _⟩
  · simp [Value.ownBlock] at hg
  · simp only [Value.ownBlock, Option.some.injEq] at hg
    omega
theorem OwnS.push {B : Nat} {v' : Value} {l : List ByteArray} {s : ByteArray} {W2 : World} {m : Nat} (hl : ∀ s ∈ l, short s) (hs : short s) (ho : W2.ownsRow B 9 1 v' m (strsC l ++ [.string s])) (hm : m = l.length + 1) : OwnS B v' (l ++ [s]) W2 := by
  subst hm
  refine ⟨by rw [List.length_append, strsC_snoc]; exact ho, fun t ht => ?_⟩
  rcases List.mem_append.1 ht with h | h
  · exact hl t h
  · simp at h; subst h; exact hs
theorem OwnS.one (w : World) (s : ByteArray) (hs : short s) : OwnS w.heap.size (.slice (some ⟨w.heap.size, 0, none⟩) 1 1) [s] (w.alloc (.cells #[.string s] 9)) := by
  refine ⟨⟨rfl, .inr ⟨w.heap.size, 1, #[.string s], rfl, Nat.le_refl _, Blk.new w _ _, Nat.le_refl _, by unfold maxLen; omega, rfl, rfl⟩⟩, fun t ht => ?_⟩
  simp at ht
  subst ht
  exact hs
/-- The names of the sorts that a production names. -/
def namesOf (l : List Sy) : List ByteArray := (l.filter (fun s => !emp s.name)).map Sy.name
def namesL (p : Pd) : List ByteArray := namesOf p.syms
theorem namesOf_snoc (l : List Sy) (s : Sy) : namesOf (l ++ [s]) = if emp s.name then namesOf l else namesOf l ++ [s.name] := by
  unfold namesOf
  rw [List.filter_append, List.map_append]
  cases h : emp s.name <;> simp [h]
theorem namesOf_len (l : List Sy) : (namesOf l).length ≤ l.length := by
  unfold namesOf
  rw [List.length_map]
  exact List.length_filter_le _ _
theorem cells_at (w : World) (l : List Value) (t : TypeId) (g : Nat) (hg : w.heap.size = g) : ∀ j u, l[j]? = some u → (w.alloc (.cells l.toArray t)).cell? ((⟨g, 0, none⟩ : Addr).add j) = some u := by
  subst hg
  exact cells_new w l t
structure NmR (w : World) (p : Pd) (k : Nat) (v : Value) (wr : World) : Prop where
  le : k ≤ p.syms.length
  b : Below w.heap.size w wr
  o : OwnS w.heap.size v (namesOf (p.syms.take k)) wr
theorem take_snoc {α : Type} (l : List α) (k : Nat) (h : k < l.length) : l.take (k + 1) = l.take k ++ [l[k]] := by
  rw [List.take_succ_eq_append_getElem h]

set_option maxHeartbeats 4000000 in
set_option maxRecDepth 100000 in
theorem names_at (p : Pd) (ap : Option Addr) (cp : Nat) (w : World) (hr : Row SyAt 8 p.syms ap w) (hln : p.syms.length ≤ 100000) : Calls Try.prog 60 #[.agg #[.bool p.lex, .string p.sort, .string p.cons, .bool p.bracket, .slice ap p.syms.length cp]] w fun e w' => ∃ v, e = .returned v ∧ OwnS w.heap.size v (namesL p) w' ∧ Below w.heap.size w w' := by
  obtain ⟨i0, hi, hz0, hz1, hz2⟩ := info_parts info9
  have HB0 := hide ((Below.refl w.heap.size w).alloc (Nat.le_refl _) (.cells #[.bool p.lex, .string p.sort, .string p.cons, .bool p.bracket, .slice ap p.syms.length cp] 38))
  have HR := hide (hr.below SyAt.stable HB0.out)
  have HI0 := hide (show NmR (w.alloc (.cells #[.bool p.lex, .string p.sort, .string p.cons, .bool p.bracket, .slice ap p.syms.length cp] 38)) p 0 (.slice none 0 0) _ from ⟨Nat.zero_le _, Below.refl _ _, OwnS.nil _ _⟩)
  clear hr
  go_enter Try.func60, Try.ntmps60
  go_wp2_with fail
  generalize w.alloc (.cells #[.bool p.lex, .string p.sort, .string p.cons, .bool p.bracket, .slice ap p.syms.length cp] 38) = w1 at HR HI0 HB0 ⊢
  go_loopg [3, 9] p.syms.length (fun u v3 v9 wr => ∃ k : Nat, Hid (u = p.syms.length - k) ∧ v9 = .int .i64 (k : Int) ∧ Hid (NmR w1 p k v3 wr))
  case atStart => exact ⟨0, hide rfl, rfl, HI0⟩
  case round =>
    obtain ⟨k, hu, rfl, hh⟩ := hrel
    have hkl := hh.out.le
    by_cases hlt : k < p.syms.length
    · have hlti : (k : Int) < (p.syms.length : Int) := by omega
      obtain ⟨b, o, rfl, hb, hat⟩ := (HR.out.below SyAt.stable hh.out.b).get hlt
      have hx := hat k hlt
      have hts := take_snoc p.syms k hlt
      generalize p.syms[k] = x at hx hts
      clear hat
      obtain ⟨e0, e1, e2, e3, e4, e5, e6, e7⟩ := hx.cells
      have hsn : short x.name := hx.1.n
      have HN := hide (namesOf_snoc (p.syms.take k) x)
      have HTS := hide hts
      have hml : (namesOf (p.syms.take k)).length ≤ 100000 := by have := namesOf_len (p.syms.take k); rw [List.length_take] at this; omega
      have HOW := hide hh.out.o
      have HS := hide hsn
      have hbs := hh.out.b.size
      clear hx hts
      rcases emp_or x.name with ⟨bn, zn, y1, y2, y3⟩ | ⟨bn, zn, y1, y2, y3⟩
      · go_wp2_with fail
        go_roundg (p.syms.length - (k + 1))
        case measure => rw [hu.out]; omega
        case rel =>
          refine ⟨k + 1, hide rfl, by go_num, hide ⟨hlt, hh.out.b.alloc hh.out.b.size _, ?_⟩⟩
          rw [HTS.out, HN.out, if_pos zn.out]
          exact hh.out.o.below ((Below.refl _ _).alloc (Nat.le_refl _) _)
      · go_wp2_with (at_builtin; refine wpList_append_own _ rfl _ _ 56 rfl w1.heap.size 9 i0 (.string ⟨#[]⟩) 1 16 Try.underlying56 hi hz0 hz1 hz2 rfl (by decide) _ _ (strsC (namesOf (p.syms.take k))) rfl ((HOW.out.1.alloc _).alloc _) ⟨wr.heap.size + 1, 0, none⟩ 1 1 [.string x.name] rfl rfl ?c1 ?c2 ?c3 ?c4 ?c5 ?_)
        case c1 => exact cells_at _ _ _ _ (by simp)
        case c2 => first | (intro y hy; simp at hy; subst hy; rfl) | rfl
        case c3 => unfold maxLen; omega
        case c4 => omega
        case c5 => simp; omega
        intro v' w2 hown' hgrow _
        have HG := hide hgrow
        have HO := hide hown'
        clear hgrow hown'
        go_wp2_with fail
        go_roundg (p.syms.length - (k + 1))
        case measure => rw [hu.out]; omega
        case rel =>
          have hb2 := (hh.out.b.alloc hh.out.b.size (.cells #[.int .i64 x.kind, .string x.text, .int .u64 (x.set.w0 : Int), .int .u64 (x.set.w1 : Int), .int .u64 (x.set.w2 : Int), .int .u64 (x.set.w3 : Int), .string x.name, .string x.sep] 61)).alloc (by simp; omega) (.cells #[.string x.name] 9)
          have hbw := hb2.grown HG.out hb2.size (fun g hg => own_block_ge HOW.out.1 g hg)
          refine ⟨k + 1, hide rfl, by go_num, hide ⟨hlt, hbw, ?_⟩⟩
          · rw [HTS.out, HN.out, if_neg (by rw [zn.out]; decide)]
            exact OwnS.push HOW.out.2 HS.out HO.out rfl
    · have hlti : ¬ (k : Int) < (p.syms.length : Int) := by omega
      go_wp2_with fail
      go_ret
      refine ⟨_, rfl, ?_, below_next HB0.out hh.out.b⟩
      have := hh.out.o
      rw [List.take_of_length_le (by omega)] at this
      exact this.base HB0.out.size
end Go.Proofs.Ytalicfpcmcbdbaa
