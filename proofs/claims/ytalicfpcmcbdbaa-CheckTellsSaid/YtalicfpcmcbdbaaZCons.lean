/- The walk of Cons. -/
import Derived.Test.YtalicfpcmcbdbaaZRProd
import Derived.Test.YtalicfpcmcbdbaaZRSym
import Derived.Test.YtalicfpcmcbdbaaZNames
set_option linter.unusedVariables false
set_option linter.unusedSimpArgs false
set_option linter.unnecessarySimpa false
set_option linter.deprecated false
namespace Go.Proofs.Ytalicfpcmcbdbaa
open Go.RowKit

set_option maxHeartbeats 4000000 in
set_option maxRecDepth 100000 in
theorem idxProd (g : Nat) (lb : Array Value) (eg : ∀ args w, (callFunc g args).run Try.prog w = .ok (.enter g args) w) (p : Pd → Bool) (l : List Pd) (a : Option Addr) (c : Nat) (w : World) (hr : Row PdAt 5 l a w)
    (hp : ∀ W x ap cp, x ∈ l → x.ok → Below w.heap.size w W → Row SyAt 8 x.syms ap W → Calls Try.prog g (#[.agg #[.bool x.lex, .string x.sort, .string x.cons, .bool x.bracket, .slice ap x.syms.length cp]] ++ lb) W fun e w' => e = .returned (.bool (p x)) ∧ Below w.heap.size w w') :
    Calls Try.prog 57 #[.slice a l.length c, .func (.func g) #[] lb] w fun e w' => e = .returned (.int .i64 (fIdx p l 0)) ∧ Below w.heap.size w w' := by
  have HP := hide hp
  have HR := hide hr
  have hln : l.length ≤ 140737488351232 := hr.1
  clear hp hr
  go_enter Try.func57, Try.ntmps57
  go_wp2_with fail
  go_loopg [5, 8] l.length (fun u v5 v8 wr => ∃ k : Nat, Hid (u = l.length - k) ∧ v8 = .int .i64 (k : Int) ∧ Hid (k ≤ l.length ∧ Below w.heap.size w wr ∧ ∀ j (h : j < l.length), j < k → p l[j] = false))
  case atStart => exact ⟨0, hide rfl, rfl, hide ⟨Nat.zero_le _, Below.refl _ _, fun _ _ h => absurd h (Nat.not_lt_zero _)⟩⟩
  case round =>
    obtain ⟨k, hu, rfl, hh⟩ := hrel
    have hkl := hh.out.1
    by_cases hlt : k < l.length
    · have hlti : (k : Int) < (l.length : Int) := by omega
      obtain ⟨b, o, rfl, hb, hat⟩ := (HR.out.below PdAt.stable hh.out.2.1).get hlt
      have hx := hat k hlt
      have HC := hide (fun ap cp => HP.out wr l[k] ap cp (List.getElem_mem hlt) hx.1 hh.out.2.1)
      obtain ⟨x, hxe⟩ : ∃ x, l[k] = x := ⟨_, rfl⟩
      have HX := hide hxe
      rw [hxe] at hx HC
      clear hxe hat
      obtain ⟨ap, cp, ⟨e0, e1, e2, e3, e4⟩, hrow⟩ := hx.cells
      replace HC := hide (HC.out ap cp hrow)
      clear hx hrow
      cases hq : p x with
      | true =>
        rw [hq] at HC
        have HQ := hide hq
        clear hq
        go_wp2_with (go_at_fn g; refine HC.out.mono ?_; rintro e w' ⟨rfl, hb'⟩)
        go_ret
        refine ⟨ret_int ?_, hb'⟩
        rw [fIdx_hit p l 0 k hlt hh.out.2.2 (by rw [HX.out]; exact HQ.out)]
        omega
      | false =>
        rw [hq] at HC
        have HQ := hide hq
        clear hq
        go_wp2_with (go_at_fn g; refine HC.out.mono ?_; rintro e w' ⟨rfl, hb'⟩)
        go_roundg (l.length - (k + 1))
        case measure => rw [hu.out]; omega
        case rel =>
          refine ⟨k + 1, hide rfl, by go_num, hide ⟨hlt, hb', fun j h hj => ?_⟩⟩
          by_cases e : j = k
          · subst e
            rw [HX.out]
            exact HQ.out
          · exact hh.out.2.2 j h (by omega)
    · have hlti : ¬ (k : Int) < (l.length : Int) := by omega
      go_wp2_with fail
      go_ret
      refine ⟨ret_int ?_, hh.out.2.1⟩
      rw [fIdx_miss p l 0 (fun j h => hh.out.2.2 j h (by omega))]
/-- Is a production the one of a constructor? -/
def isCons (name : ByteArray) (p : Pd) : Bool := !p.lex && decide (p.cons = name)
/-- The place of a constructor's production. -/
def consIdx (ps : List Pd) (name : ByteArray) : Int := if emp name = true then -1 else fIdx (isCons name) ps 0
theorem toList_eq_iff (s t : ByteArray) : s.toList = t.toList ↔ s = t := ⟨fun h => data_inj (by simpa [ByteArray.toList_eq] using h), fun h => by rw [h]⟩
set_option maxHeartbeats 4000000 in
set_option maxRecDepth 100000 in
theorem cons1_any (p : Pd) (ap : Option Addr) (cp : Nat) (kn : Nat) (name : ByteArray) (w : World) (hc : w.cell? ⟨kn, 0, none⟩ = some (.string name)) (hk : kn < w.heap.size) : Calls Try.prog 58 #[.agg #[.bool p.lex, .string p.sort, .string p.cons, .bool p.bracket, .slice ap p.syms.length cp], .pointer (some ⟨kn, 0, none⟩)] w fun e w' => e = .returned (.bool (isCons name p)) ∧ Below w.heap.size w w' := by
  obtain ⟨lx, so, cn, br, sy⟩ := p
  have HB := hide ((Below.refl w.heap.size w).alloc (Nat.le_refl _) (.cells #[.bool lx, .string so, .string cn, .bool br, .slice ap sy.length cp] 38))
  cases lx
  · by_cases he : cn = name
    · have h1 : cn.toList = name.toList := by rw [he]
      have HR := hide (show isCons name ⟨false, so, cn, br, sy⟩ = true by unfold isCons; rw [decide_eq_true he]; rfl)
      clear he
      go_enter Try.func58, Try.ntmps58
      go_wp2_with fail
      go_ret
      exact ⟨by rw [HR.out]; rfl, HB.out⟩
    · have h1 : ¬ cn.toList = name.toList := fun h => he ((toList_eq_iff _ _).1 h)
      have h2 : (cn.toList == name.toList) = false := beq_eq_false_iff_ne.2 h1
      have HR := hide (show isCons name ⟨false, so, cn, br, sy⟩ = false by unfold isCons; rw [decide_eq_false he]; rfl)
      clear he
      go_enter Try.func58, Try.ntmps58
      go_wp2_with fail
      go_ret
      exact ⟨by rw [HR.out]; simp [h2], HB.out⟩
  · go_enter Try.func58, Try.ntmps58
    go_wp2_with fail
    go_ret
    exact ⟨rfl, HB.out⟩
set_option maxHeartbeats 4000000 in
set_option maxRecDepth 100000 in
theorem Cons_at (d : Df) (a2 : Option Addr) (c2 : Nat) (a3 : Option Addr) (c3 : Nat) (a4 : Option Addr) (c4 : Nat) (a5 : Option Addr) (c5 : Nat) (a6 : Option Addr) (c6 : Nat) (name : ByteArray) (w : World) (hp : Row PdAt 5 d.prods a2 w) : Calls Try.prog 21 #[.agg #[.string d.start, .string d.layout, .slice a2 d.prods.length c2, .slice a3 d.chains.length c3, .slice a4 d.follows.length c4, .slice a5 d.rejects.length c5, .slice a6 d.boxes.length c6], .string name] w fun e w' => e = .returned (.int .i64 (consIdx d.prods name)) ∧ Below w.heap.size w w' := by
  obtain ⟨w1, hw1⟩ : ∃ w1, (w.alloc (.cells #[.string d.start, .string d.layout, .slice a2 d.prods.length c2, .slice a3 d.chains.length c3, .slice a4 d.follows.length c4, .slice a5 d.rejects.length c5, .slice a6 d.boxes.length c6] 28)).alloc (.cells #[.string name] 9) = w1 := ⟨_, rfl⟩
  obtain ⟨kb, hkb⟩ : ∃ kb, w.heap.size = kb := ⟨_, rfl⟩
  have HBL := hide (show Blk w1 kb #[.string d.start, .string d.layout, .slice a2 d.prods.length c2, .slice a3 d.chains.length c3, .slice a4 d.follows.length c4, .slice a5 d.rejects.length c5, .slice a6 d.boxes.length c6] 28 by rw [← hw1, ← hkb]; exact (Blk.new w _ _).alloc _)
  have HNM := hide (show Blk w1 (kb + 1) #[.string name] 9 by rw [← hw1, ← hkb]; exact NB.new1)
  have HB0 := hide (show Below w.heap.size w w1 by rw [← hw1]; exact NB.alloc (NB.alloc (Below.refl _ _) _) _)
  have HR := hide (hp.below PdAt.stable HB0.out)
  have HW1 := hide hw1
  have HKB := hide hkb
  have HC := hide (fun W (h : Below w1.heap.size w1 W) => idxProd 58 #[.pointer (some ⟨kb + 1, 0, none⟩)] (by intro args w; exact enters_of Try.func58 (by kernel_rfl) rfl args w) (isCons name) d.prods a2 c2 W (HR.out.below PdAt.stable h) (fun W2 x ap cp _ _ hW _ => (cons1_any x ap cp (kb + 1) name W2 ((HNM.out.below (below_next h hW)).cell 0) ((HNM.out.below (below_next h hW)).lt)).mono (fun e w' h2 => ⟨h2.1, below_next hW h2.2⟩)))
  clear hp hw1 hkb
  rcases emp_or name with ⟨b, z, y1, y2, y3⟩ | ⟨b, z, y1, y2, y3⟩
  · have HF := hide (show consIdx d.prods name = -1 by unfold consIdx; rw [if_pos z.out])
    go_enter Try.func21, Try.ntmps21
    go_upto_region 1 with fail
    rw [HW1.out, HKB.out]
    have n0 := HNM.out.cell 0
    have nl := HNM.out.lt
    go_wp2_with fail
    go_ret
    exact ⟨by rw [HF.out]; rfl, HB0.out⟩
  · have HF := hide (show consIdx d.prods name = fIdx (isCons name) d.prods 0 by unfold consIdx; rw [if_neg (by rw [z.out]; decide)])
    go_enter Try.func21, Try.ntmps21
    go_upto_region 1 with fail
    rw [HW1.out, HKB.out]
    have n0 := HNM.out.cell 0
    have nl := HNM.out.lt
    have d2 := HBL.out.cell 2
    go_wp2_with (go_at_call 57; refine (HC.out _ (Below.refl _ _)).mono ?_; rintro e w' ⟨rfl, hb⟩)
    go_ret
    exact ⟨by rw [HF.out]; rfl, below_next HB0.out hb⟩
theorem fIdx_lt {α : Type} (p : α → Bool) : ∀ (l : List α) (s : Nat), fIdx p l s = -1 ∨ ((s : Int) ≤ fIdx p l s ∧ fIdx p l s < ((s + l.length : Nat) : Int))
  | [], s => Or.inl rfl
  | x :: xs, s => by
    rw [fIdx]
    split
    · right; rw [List.length_cons]; omega
    · have := fIdx_lt p xs (s + 1)
      rw [List.length_cons]
      omega
theorem consIdx_lt (ps : List Pd) (name : ByteArray) : consIdx ps name = -1 ∨ (0 ≤ consIdx ps name ∧ consIdx ps name < (ps.length : Int)) := by
  unfold consIdx
  split
  · exact Or.inl rfl
  · have := fIdx_lt (isCons name) ps 0
    simpa using this
end Go.Proofs.Ytalicfpcmcbdbaa
