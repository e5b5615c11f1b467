/- The walk of cycle. The walk of follow. The walk of undefined. -/
import Derived.Test.YtalicfpcmcbdbaaZLook2
import Derived.Test.YtalicfpcmcbdbaaZRcWalk
import Derived.Test.YtalicfpcmcbdbaaZBare
import Derived.Test.YtalicfpcmcbdbaaZRSym
import Derived.Test.YtalicfpcmcbdbaaZNames
set_option linter.unusedVariables false
set_option linter.unusedSimpArgs false
set_option linter.unnecessarySimpa false
set_option linter.deprecated false
namespace Go.Proofs.Ytalicfpcmcbdbaa
open Go.RowKit

/-- The sorts that reach themselves by bare productions. -/
theorem reach_dec (ps : List Pd) (stp : Pd → List ByteArray) (s t : ByteArray) : Reach ps stp s t ∨ ¬ Reach ps stp s t := Classical.em _
open Classical in
noncomputable def cycleL (d : Df) : Int × ByteArray := firstL 48 (fun s => decide (Reach d.prods bareL s s)) (sortsL d.prods)
set_option maxHeartbeats 800000 in
set_option maxRecDepth 100000 in
open Classical in
theorem cycle_any (d : Df) (a2 : Option Addr) (c2 : Nat) (a3 : Option Addr) (c3 : Nat) (a4 : Option Addr) (c4 : Nat) (a5 : Option Addr) (c5 : Nat) (a6 : Option Addr) (c6 : Nat) (as_ : Option Addr) (cs m n : Nat) (bb : Nat) (w : World) (hbk : Book d a2 c2 a3 c3 a4 c4 a5 c5 a6 c6 as_ cs m n bb w) (hall : (d.prods.flatMap bareL).length ≤ 99999) (hdl : d.prods.length ≤ 100000) (hsl : ∀ p ∈ d.prods, p.syms.length ≤ 100000) : Calls Try.prog 45 #[.pointer (some ⟨bb, 0, none⟩)] w fun e w' => e = .returned (.tuple #[.int .i64 ((cycleL d).1), .string ((cycleL d).2)]) ∧ Below w.heap.size w w' := by
  have bk0 := hbk.bk.cell 0
  have bk1 := hbk.bk.cell 1
  have bk2 := hbk.bk.cell 2
  have bk3 := hbk.bk.cell 3
  have bk4 := hbk.bk.cell 4
  have bk5 := hbk.bk.cell 5
  have bk6 := hbk.bk.cell 6
  have bk7 := hbk.bk.cell 7
  have bk8 := hbk.bk.cell 8
  have bkl := hbk.bk.lt
  have HBK := hide hbk
  clear hbk
  have hln := HBK.out.so.1
  have HRC := hide (fun s W (hs : short s) (hW : Below w.heap.size w W) => reach_at d a2 c2 a3 c3 a4 c4 a5 c5 a6 c6 as_ cs m n bb s 73 bareL (by intro args w; exact enters_of Try.func73 (by kernel_rfl) rfl args w) W (HBK.out.below hW) hs hall hdl (fun W p ap cp hp hr => bare_at p ap cp W hr (hsl p hp)))
  clear hall hdl hsl
  go_enter Try.func45, Try.ntmps45
  go_wp2_with fail
  go_loopg [11] (sortsL d.prods).length (fun u v11 wr => ∃ k : Nat, Hid (u = (sortsL d.prods).length - k) ∧ v11 = .int .i64 (k : Int) ∧ Hid (k ≤ (sortsL d.prods).length ∧ Below w.heap.size w wr ∧ ∀ j (h : j < (sortsL d.prods).length), j < k → ¬ Reach d.prods bareL (sortsL d.prods)[j] (sortsL d.prods)[j]))
  case atStart => exact ⟨0, hide rfl, rfl, hide ⟨Nat.zero_le _, Below.refl _ _, fun j _ h => by omega⟩⟩
  case round =>
    obtain ⟨k, hu, rfl, hh⟩ := hrel
    have hkl := hh.out.1
    by_cases hlt : k < (sortsL d.prods).length
    · have hlti : (k : Int) < ((sortsL d.prods).length : Int) := by omega
      obtain ⟨b, o, rfl, hb, hat⟩ := (HBK.out.below hh.out.2.1).so.get hlt
      have hx := hat k hlt
      rw [Nat.mul_one] at hx
      have HNX := hide (fun (h : ¬ Reach d.prods bareL (sortsL d.prods)[k] (sortsL d.prods)[k]) => (show ∀ j (h : j < (sortsL d.prods).length), j < k + 1 → ¬ Reach d.prods bareL (sortsL d.prods)[j] (sortsL d.prods)[j] from fun j hj hjk => by
        by_cases e : j = k
        · subst e; exact h
        · exact hh.out.2.2 j hj (by omega)))
      have HHI := hide (fun (h : Reach d.prods bareL (sortsL d.prods)[k] (sortsL d.prods)[k]) => (show cycleL d = (48, (sortsL d.prods)[k]) from firstL_hit 48 _ (sortsL d.prods) k hlt (fun j h hj => decide_eq_false (hh.out.2.2 j h hj)) (decide_eq_true h)))
      generalize (sortsL d.prods)[k] = s at hx HNX HHI
      clear hat
      obtain ⟨hsh, f0⟩ := hx
      have HSH := hide hsh
      have HC := hide (HRC.out s wr hsh hh.out.2.1)
      clear hsh
      go_upto_region 4 with fail
      go_wp2_with (refine HC.out.mono ?_)
      rintro e w5 ⟨mb, nn, met, rfl, hq⟩
      have HB5 := hide (below_next hh.out.2.1 hq.out.2.2.2.2.2)
      have hlk := hq.out.1.look s HSH.out
      rcases Classical.em (Reach d.prods bareL s s) with h3 | h3
      · have h4 : metF met s = 1 := by unfold metF; rw [if_pos ((inB_iff s met).2 ((hq.out.2.1 s).2 h3))]
        rw [h4] at hlk
        have HF := hide (HHI.out h3)
        clear HHI HNX h3 h4
        go_wp2_with fail
        go_ret2
        exact ⟨by rw [HF.out]; rfl, HB5.out⟩
      · have h4 : metF met s = 0 := by unfold metF; rw [if_neg (fun h => h3 ((hq.out.2.1 s).1 ((inB_iff s met).1 h)))]
        rw [h4] at hlk
        have HN := hide (HNX.out h3)
        clear HHI HNX h3 h4
        go_wp2_with fail
        go_roundg ((sortsL d.prods).length - (k + 1))
        case measure => rw [hu.out]; omega
        case rel => exact ⟨k + 1, hide rfl, by go_num, hide ⟨hlt, HB5.out, HN.out⟩⟩
    · have hlti : ¬ (k : Int) < ((sortsL d.prods).length : Int) := by omega
      have HF := hide (show cycleL d = okL from firstL_miss 48 _ (sortsL d.prods) (fun j h => decide_eq_false (hh.out.2.2 j h (by omega))))
      go_wp2_with fail
      go_ret2
      exact ⟨by rw [HF.out]; rfl, hh.out.2.1⟩
end Go.Proofs.Ytalicfpcmcbdbaa

set_option linter.unusedVariables false
set_option linter.unusedSimpArgs false
set_option linter.unnecessarySimpa false
set_option linter.deprecated false
namespace Go.Proofs.Ytalicfpcmcbdbaa
open Go.RowKit

def followL (d : Df) : Int × ByteArray := firstG 51 (fun f => decide (f.set = zS)) Fl.sort d.follows
set_option maxHeartbeats 800000 in
set_option maxRecDepth 100000 in
theorem follow_any (d : Df) (a2 : Option Addr) (c2 : Nat) (a3 : Option Addr) (c3 : Nat) (a4 : Option Addr) (c4 : Nat) (a5 : Option Addr) (c5 : Nat) (a6 : Option Addr) (c6 : Nat) (as_ : Option Addr) (cs m n : Nat) (bb : Nat) (w : World) (hbk : Book d a2 c2 a3 c3 a4 c4 a5 c5 a6 c6 as_ cs m n bb w) : Calls Try.prog 48 #[.pointer (some ⟨bb, 0, none⟩)] w fun e w' => e = .returned (.tuple #[.int .i64 ((followL d).1), .string ((followL d).2)]) ∧ Below w.heap.size w w' := by
  have hln := hbk.rd.f.1
  have bk0 := hbk.bk.cell 0
  have bk1 := hbk.bk.cell 1
  have bk2 := hbk.bk.cell 2
  have bk3 := hbk.bk.cell 3
  have bk4 := hbk.bk.cell 4
  have bk5 := hbk.bk.cell 5
  have bk6 := hbk.bk.cell 6
  have bk7 := hbk.bk.cell 7
  have bk8 := hbk.bk.cell 8
  have bkl := hbk.bk.lt
  have HBK := hide hbk
  clear hbk
  obtain ⟨res, hres⟩ : ∃ r, followL d = r := ⟨_, rfl⟩
  have HRES := hide hres
  rw [hres]
  clear hres
  go_enter Try.func48, Try.ntmps48
  go_wp2_with fail
  clear bk0 bk1 bk2 bk3 bk4 bk5 bk6 bk7 bk8 bkl
  go_loopg [12] d.follows.length (fun u v12 wr => ∃ k : Nat, Hid (u = d.follows.length - k) ∧ v12 = .int .i64 (k : Int) ∧ Hid (k ≤ d.follows.length ∧ Below w.heap.size w wr ∧ ∀ j (h : j < d.follows.length), j < k → decide (d.follows[j].set = zS) = false))
  case atStart => exact ⟨0, hide rfl, rfl, hide ⟨Nat.zero_le _, Below.refl _ _, fun j _ h => by omega⟩⟩
  case round =>
    obtain ⟨k, hu, rfl, hh⟩ := hrel
    have hkl := hh.out.1
    by_cases hlt : k < d.follows.length
    · have hlti : (k : Int) < (d.follows.length : Int) := by omega
      obtain ⟨b, o, rfl, hb, hat⟩ := (HBK.out.below hh.out.2.1).rd.f.get hlt
      have hx := hat k hlt
      have HNX := hide (fun (h : decide (d.follows[k].set = zS) = false) => none_next (f := fun f => decide (f.set = zS)) (l := d.follows) (k := k) hh.out.2.2 (fun _ => rfl) h)
      have HHI := hide (fun (h : decide (d.follows[k].set = zS) = true) => firstG_hit 51 (fun f => decide (f.set = zS)) Fl.sort d.follows k hlt hh.out.2.2 h)
      generalize d.follows[k] = x at hx HNX HHI
      clear hat
      obtain ⟨e0, e1, e2, e3, e4⟩ := hx.cells
      obtain ⟨so, st⟩ := x
      have hso : st.ok := hx.1.s
      have HB2 := hide (hh.out.2.1.alloc hh.out.2.1.size (.cells #[.string so, .int .u64 (st.w0 : Int), .int .u64 (st.w1 : Int), .int .u64 (st.w2 : Int), .int .u64 (st.w3 : Int)] 48))
      have HXN := hide (Blk.new wr #[.string so, .int .u64 (st.w0 : Int), .int .u64 (st.w1 : Int), .int .u64 (st.w2 : Int), .int .u64 (st.w3 : Int)] 48)
      have hqs := fun W => eql_zero st hso W
      clear hx hso
      obtain ⟨q, hq⟩ : ∃ q, decide (st = zS) = q := ⟨_, rfl⟩
      simp only [hq] at hqs
      replace HNX := hide (fun (h : q = false) => HNX.out (hq.trans h))
      replace HHI := hide (fun (h : q = true) => HHI.out (hq.trans h))
      clear hq
      cases q
      · have HN := hide (HNX.out rfl)
        clear HHI HNX
        go_wp2_with fail
        go_roundg (d.follows.length - (k + 1))
        case measure => rw [hu.out]; omega
        case rel => exact ⟨k + 1, hide rfl, by go_num, hide ⟨hlt, HB2.out, HN.out⟩⟩
      · have HF := hide (HHI.out rfl)
        clear HHI HNX
        go_upto_region 5 with fail
        obtain ⟨w6, h6⟩ : ∃ w6, wr.alloc (.cells #[.string so, .int .u64 (st.w0 : Int), .int .u64 (st.w1 : Int), .int .u64 (st.w2 : Int), .int .u64 (st.w3 : Int)] 48) = w6 := ⟨_, rfl⟩
        obtain ⟨kx, hkx⟩ : ∃ kx, wr.heap.size = kx := ⟨_, rfl⟩
        have HX6 : Blk w6 kx #[.string so, .int .u64 (st.w0 : Int), .int .u64 (st.w1 : Int), .int .u64 (st.w2 : Int), .int .u64 (st.w3 : Int)] 48 := by rw [← h6, ← hkx]; exact HXN.out
        have x0 := HX6.cell 0
        have xl := HX6.lt
        replace HB2 := hide (show Below w.heap.size w w6 by rw [← h6]; exact HB2.out)
        rw [h6, hkx]
        clear h6 hkx HX6 e0 e1 e2 e3 e4 hb
        go_quiet (fail)
        go_wp2_with fail
        go_ret2
        exact ⟨by rw [← HRES.out]; unfold followL; rw [HF.out]; rfl, HB2.out.trans ⟨rfl, rfl, rfl, Nat.le_refl _, fun _ _ => rfl⟩⟩
    · have hlti : ¬ (k : Int) < (d.follows.length : Int) := by omega
      have HF := hide (show followL d = okL from firstG_miss 51 (fun f : Fl => decide (f.set = zS)) Fl.sort d.follows (fun j h => hh.out.2.2 j h (by omega)))
      go_wp2_with fail
      go_ret2
      exact ⟨by rw [← HRES.out, HF.out]; rfl, hh.out.2.1⟩
end Go.Proofs.Ytalicfpcmcbdbaa

set_option linter.unusedVariables false
set_option linter.unusedSimpArgs false
set_option linter.unnecessarySimpa false
set_option linter.deprecated false
namespace Go.Proofs.Ytalicfpcmcbdbaa
open Go.RowKit

theorem OwnS.app {B : Nat} {v' : Value} {l l2 : List ByteArray} {W2 : World} {m : Nat} (hl : ∀ s ∈ l, short s) (hs : ∀ s ∈ l2, short s) (ho : W2.ownsRow B 9 1 v' m (strsC l ++ strsC l2)) (hm : m = l.length + l2.length) : OwnS B v' (l ++ l2) W2 := by
  subst hm
  refine ⟨by rw [List.length_append, strsC_app]; exact ho, fun t ht => ?_⟩
  rcases List.mem_append.1 ht with h | h
  · exact hl t h
  · exact hs t h
def rejN (r : Rj) : List ByteArray := [r.sort, r.by_]
def used1 (d : Df) (k : Nat) : List ByteArray := (d.prods.take k).flatMap namesL
def used2 (d : Df) (k : Nat) : List ByteArray := d.prods.flatMap namesL ++ (d.follows.take k).map Fl.sort
def used3 (d : Df) (k : Nat) : List ByteArray := d.prods.flatMap namesL ++ d.follows.map Fl.sort ++ (d.rejects.take k).flatMap rejN
/-- The sorts that are named. -/
def usedL (d : Df) : List ByteArray := d.prods.flatMap namesL ++ d.follows.map Fl.sort ++ d.rejects.flatMap rejN
theorem used1_snoc (d : Df) (k : Nat) (h : k < d.prods.length) : used1 d (k + 1) = used1 d k ++ namesL d.prods[k] := by
  unfold used1; rw [take_snoc _ _ h, List.flatMap_append]; simp
theorem used2_snoc (d : Df) (k : Nat) (h : k < d.follows.length) : used2 d (k + 1) = used2 d k ++ [d.follows[k].sort] := by
  unfold used2; rw [take_snoc _ _ h, List.map_append, List.append_assoc]; simp
theorem used3_snoc (d : Df) (k : Nat) (h : k < d.rejects.length) : used3 d (k + 1) = used3 d k ++ rejN d.rejects[k] := by
  unfold used3; rw [take_snoc _ _ h, List.flatMap_append, List.append_assoc]; simp
theorem used1_end (d : Df) (k : Nat) (h : d.prods.length ≤ k) : used1 d k = used2 d 0 := by
  unfold used1 used2; rw [List.take_of_length_le h]; simp
theorem used2_end (d : Df) (k : Nat) (h : d.follows.length ≤ k) : used2 d k = used3 d 0 := by
  unfold used2 used3; rw [List.take_of_length_le h]; simp
theorem used3_end (d : Df) (k : Nat) (h : d.rejects.length ≤ k) : used3 d k = usedL d := by
  unfold used3 usedL; rw [List.take_of_length_le h]
theorem flat_take_le {α : Type} (f : α → List ByteArray) (l : List α) (k : Nat) : ((l.take k).flatMap f).length ≤ (l.flatMap f).length := by
  conv => rhs; rw [← List.take_append_drop k l, List.flatMap_append, List.length_append]
  omega
theorem used1_le (d : Df) (k : Nat) : (used1 d k).length ≤ (usedL d).length := by
  unfold used1 usedL
  have := flat_take_le namesL d.prods k
  simp only [List.length_append]
  omega
theorem used2_le (d : Df) (k : Nat) : (used2 d k).length ≤ (usedL d).length := by
  unfold used2 usedL
  simp only [List.length_append, List.length_map, List.length_take]
  omega
theorem used3_le (d : Df) (k : Nat) : (used3 d k).length ≤ (usedL d).length := by
  unfold used3 usedL
  have := flat_take_le rejN d.rejects k
  simp only [List.length_append]
  omega
def undefL (d : Df) : Int × ByteArray := firstL 43 (fun s => decide (lexOf d.prods s = 0)) (usedL d)
set_option maxHeartbeats 1600000 in
set_option maxRecDepth 100000 in
theorem undef_any (d : Df) (a2 : Option Addr) (c2 : Nat) (a3 : Option Addr) (c3 : Nat) (a4 : Option Addr) (c4 : Nat) (a5 : Option Addr) (c5 : Nat) (a6 : Option Addr) (c6 : Nat) (as_ : Option Addr) (cs m n : Nat) (bb : Nat) (w : World) (hbk : Book d a2 c2 a3 c3 a4 c4 a5 c5 a6 c6 as_ cs m n bb w) (htot : (usedL d).length ≤ 99000) (hsl : ∀ p ∈ d.prods, p.syms.length ≤ 100000) : Calls Try.prog 38 #[.pointer (some ⟨bb, 0, none⟩)] w fun e w' => e = .returned (.tuple #[.int .i64 ((undefL d).1), .string ((undefL d).2)]) ∧ Below w.heap.size w w' := by
  obtain ⟨i0, hi, hz0, hz1, hz2⟩ := info_parts info9
  have hln2 := hbk.rd.p.1
  have hln4 := hbk.rd.f.1
  have hln5 := hbk.rd.j.1
  have bk0 := hbk.bk.cell 0
  have bk1 := hbk.bk.cell 1
  have bk2 := hbk.bk.cell 2
  have bk3 := hbk.bk.cell 3
  have bk4 := hbk.bk.cell 4
  have bk5 := hbk.bk.cell 5
  have bk6 := hbk.bk.cell 6
  have bk7 := hbk.bk.cell 7
  have bk8 := hbk.bk.cell 8
  have bkl := hbk.bk.lt
  have HBK := hide hbk
  clear hbk
  have HTOT := hide htot
  have HSL := hide hsl
  clear htot hsl
  go_enter Try.func38, Try.ntmps38
  go_wp2_with fail
  clear bk0 bk1 bk2 bk3 bk4 bk5 bk6 bk7 bk8 bkl
  go_loopg [4, 19] d.prods.length (fun u v4 v19 wr => ∃ k : Nat, Hid (u = d.prods.length - k) ∧ v19 = .int .i64 (k : Int) ∧ Hid (k ≤ d.prods.length ∧ Below w.heap.size w wr ∧ OwnS w.heap.size v4 (used1 d k) wr))
  case atStart => exact ⟨0, hide rfl, rfl, hide ⟨Nat.zero_le _, Below.refl _ _, OwnS.nil _ _⟩⟩
  case round =>
    obtain ⟨k, hu, rfl, hh⟩ := hrel
    have hkl := hh.out.1
    by_cases hlt : k < d.prods.length
    · have hlti : (k : Int) < (d.prods.length : Int) := by omega
      have hg2 : Row PdAt 5 d.prods a2 wr := (HBK.out.below hh.out.2.1).rd.p
      obtain ⟨b, o, rfl, hb, hat⟩ := hg2.get hlt
      have hx := hat k hlt
      have HSN := hide (used1_snoc d k hlt)
      have HSX := hide (HSL.out _ (List.getElem_mem hlt))
      generalize d.prods[k] = x at hx HSN HSX
      clear hat
      obtain ⟨ap, cp, ⟨e0, e1, e2, e3, e4⟩, hrow⟩ := hx.cells
      obtain ⟨lx, so, cn, br, sy⟩ := x
      have HBW := hide ((Below.refl wr.heap.size wr).alloc (Nat.le_refl _) (.cells #[.bool lx, .string so, .string cn, .bool br, .slice ap sy.length cp] 38))
      have HC := hide (names_at ⟨lx, so, cn, br, sy⟩ ap cp (wr.alloc (.cells #[.bool lx, .string so, .string cn, .bool br, .slice ap sy.length cp] 38)) (hrow.below SyAt.stable HBW.out) HSX.out)
      clear hx hrow
      go_wp2_with fail
      refine HC.out.mono ?_
      rintro e w5 ⟨v, rfl, ho, hb5⟩
      have HB5 := hide (below_next hh.out.2.1 (below_next HBW.out hb5))
      have HOW := hide (hh.out.2.2.below (below_next HBW.out hb5))
      have HO5 := hide ho
      have hml := used1_le d (k + 1)
      rw [HSN.out, List.length_append] at hml
      have htt := HTOT.out
      have hbs := HB5.out.size
      clear ho e0 e1 e2 e3 e4 hb5 hb
      go_wp2_with (at_builtin; refine wpList_append_rows rfl _ _ 56 rfl w.heap.size 9 i0 (.string ⟨#[]⟩) 1 16 Try.underlying56 hi hz0 hz1 hz2 rfl (by decide) _ _ (strsC (used1 d k)) rfl HOW.out.1 _ _ _ (strsC (namesL ⟨lx, so, cn, br, sy⟩)) rfl HO5.out.1 strsC_one ?c3 ?c4 ?c5 ?_)
      case c3 => unfold maxLen; omega
      case c4 => omega
      case c5 => omega
      intro v' w2 hown' hgrow
      have HG := hide hgrow
      have HO := hide hown'
      clear hgrow hown'
      go_wp2_with fail
      go_roundg (d.prods.length - (k + 1))
      case measure => rw [hu.out]; omega
      case rel =>
        refine ⟨k + 1, hide rfl, by go_num, hide ⟨hlt, HB5.out.grown HG.out HB5.out.size (fun g hg => own_block_ge HOW.out.1 g hg), ?_⟩⟩
        rw [HSN.out]
        exact OwnS.app HOW.out.2 HO5.out.2 HO.out rfl
    · have hlti : ¬ (k : Int) < (d.prods.length : Int) := by omega
      have HB1 := hide hh.out.2.1
      have HO1 := hide (show OwnS w.heap.size u4 (used2 d 0) wr by rw [← used1_end d k (by omega)]; exact hh.out.2.2)
      have HBK1 := hide (HBK.out.below hh.out.2.1)
      clear hu hh
      obtain ⟨wo, rfl⟩ : ∃ wo : World, wo = wr := ⟨_, rfl⟩
      obtain ⟨vo, rfl⟩ : ∃ vo : Value, vo = u4 := ⟨_, rfl⟩
      have bk4 := HBK1.out.bk.cell 4
      have bkl := HBK1.out.bk.lt
      go_wp2_with fail
      clear bk4 bkl
      go_loopg [4, 34] d.follows.length (fun u v4 v34 wr => ∃ k : Nat, Hid (u = d.follows.length - k) ∧ v34 = .int .i64 (k : Int) ∧ Hid (k ≤ d.follows.length ∧ Below w.heap.size w wr ∧ OwnS w.heap.size v4 (used2 d k) wr))
      case atStart => exact ⟨0, hide rfl, rfl, hide ⟨Nat.zero_le _, HB1.out, HO1.out⟩⟩
      case round =>
        obtain ⟨k, hu, rfl, hh⟩ := hrel
        have hkl := hh.out.1
        by_cases hlt : k < d.follows.length
        · have hlti : (k : Int) < (d.follows.length : Int) := by omega
          have hg4 : Row FlAt 5 d.follows a4 wr := (HBK.out.below hh.out.2.1).rd.f
          obtain ⟨b, o, rfl, hb, hat⟩ := hg4.get hlt
          have hx := hat k hlt
          have HSN := hide (used2_snoc d k hlt)
          generalize d.follows[k] = x at hx HSN
          clear hat
          obtain ⟨e0, e1, e2, e3, e4⟩ := hx.cells
          obtain ⟨so, st⟩ := x
          have HS := hide (show short so from hx.1.n)
          have HOW := hide hh.out.2.2
          have hml := used2_le d (k + 1)
          rw [HSN.out, List.length_append] at hml
          have htt := HTOT.out
          have hbs := hh.out.2.1.size
          clear hx
          go_wp2_with (at_builtin; refine wpList_append_own _ rfl _ _ 56 rfl w.heap.size 9 i0 (.string ⟨#[]⟩) 1 16 Try.underlying56 hi hz0 hz1 hz2 rfl (by decide) _ _ (strsC (used2 d k)) rfl ((HOW.out.1.alloc _).alloc _) ⟨wr.heap.size + 1, 0, none⟩ 1 1 [.string so] rfl rfl ?c1 ?c2 ?c3 ?c4 ?c5 ?_)
          case c2 => first | (intro y hy; simp at hy; subst hy; rfl) | rfl
          case c3 => simp at hml; unfold maxLen; omega
          case c4 => simp at hml; omega
          case c5 => omega
          intro v' w2 hown' hgrow _
          have HG := hide hgrow
          have HO := hide hown'
          clear hgrow hown'
          go_wp2_with fail
          go_roundg (d.follows.length - (k + 1))
          case measure => rw [hu.out]; omega
          case rel =>
            have hb2 := (hh.out.2.1.alloc hh.out.2.1.size (.cells #[.string so, .int .u64 (st.w0 : Int), .int .u64 (st.w1 : Int), .int .u64 (st.w2 : Int), .int .u64 (st.w3 : Int)] 48)).alloc (by simp; omega) (.cells #[.string so] 9)
            refine ⟨k + 1, hide rfl, by go_num, hide ⟨hlt, hb2.grown HG.out hb2.size (fun g hg => own_block_ge HOW.out.1 g hg), ?_⟩⟩
            rw [HSN.out]
            exact OwnS.push HOW.out.2 HS.out HO.out rfl
        · have hlti : ¬ (k : Int) < (d.follows.length : Int) := by omega
          have HB2 := hide hh.out.2.1
          have HO2 := hide (show OwnS w.heap.size u4 (used3 d 0) wr by rw [← used2_end d k (by omega)]; exact hh.out.2.2)
          have HBK2 := hide (HBK.out.below hh.out.2.1)
          clear hu hh
          obtain ⟨wp, rfl⟩ : ∃ wp : World, wp = wr := ⟨_, rfl⟩
          obtain ⟨vp, rfl⟩ : ∃ vp : Value, vp = u4 := ⟨_, rfl⟩
          have bk5 := HBK2.out.bk.cell 5
          have bkl := HBK2.out.bk.lt
          go_wp2_with fail
          clear bk5 bkl
          go_loopg [4, 50] d.rejects.length (fun u v4 v50 wr => ∃ k : Nat, Hid (u = d.rejects.length - k) ∧ v50 = .int .i64 (k : Int) ∧ Hid (k ≤ d.rejects.length ∧ Below w.heap.size w wr ∧ OwnS w.heap.size v4 (used3 d k) wr))
          case atStart => exact ⟨0, hide rfl, rfl, hide ⟨Nat.zero_le _, HB2.out, HO2.out⟩⟩
          case round =>
            obtain ⟨k, hu, rfl, hh⟩ := hrel
            have hkl := hh.out.1
            by_cases hlt : k < d.rejects.length
            · have hlti : (k : Int) < (d.rejects.length : Int) := by omega
              have hg5 : Row RjAt 2 d.rejects a5 wr := (HBK.out.below hh.out.2.1).rd.j
              obtain ⟨b, o, rfl, hb, hat⟩ := hg5.get hlt
              have hx := hat k hlt
              have HSN := hide (used3_snoc d k hlt)
              generalize d.rejects[k] = x at hx HSN
              clear hat
              obtain ⟨e0, e1⟩ := hx.cells
              obtain ⟨so, bi⟩ := x
              have HS := hide (show ∀ s ∈ [so, bi], short s by intro s hs; simp at hs; exact hs.elim (fun e => by rw [e]; exact hx.1.n) (fun e => by rw [e]; exact hx.1.b))
              have HOW := hide hh.out.2.2
              have hml := used3_le d (k + 1)
              rw [HSN.out, List.length_append] at hml
              have htt := HTOT.out
              have hbs := hh.out.2.1.size
              clear hx
              trace_state
              go_wp2_with (at_builtin; refine wpList_append_own _ rfl _ _ 56 rfl w.heap.size 9 i0 (.string ⟨#[]⟩) 1 16 Try.underlying56 hi hz0 hz1 hz2 rfl (by decide) _ _ (strsC (used3 d k)) rfl ((HOW.out.1.alloc _).alloc _) ⟨wr.heap.size + 1, 0, none⟩ 2 2 [.string so, .string bi] rfl rfl ?e1 ?e2 ?e3 ?e4 ?e5 ?_)
              case e2 => first | exact ⟨rfl, rfl⟩ | (intro y hy; simp at hy; exact hy.elim (fun e => by rw [e]; rfl) (fun e => by rw [e]; rfl))
              case e3 => simp [rejN] at hml; unfold maxLen; omega
              case e4 => simp [rejN] at hml; omega
              case e5 => first | omega | (simp; omega)
              intro v' w2 hown' hgrow _
              have HG := hide hgrow
              have HO := hide hown'
              clear hgrow hown'
              go_wp2_with fail
              go_roundg (d.rejects.length - (k + 1))
              case measure => rw [hu.out]; omega
              case rel =>
                have hb2 := (hh.out.2.1.alloc hh.out.2.1.size (.cells #[.string so, .string bi] 50)).alloc (by simp; omega) (.cells #[.string so, .string bi] 9)
                refine ⟨k + 1, hide rfl, by go_num, hide ⟨hlt, hb2.grown HG.out hb2.size (fun g hg => own_block_ge HOW.out.1 g hg), ?_⟩⟩
                rw [HSN.out]
                exact OwnS.app HOW.out.2 HS.out HO.out rfl
            · have hlti : ¬ (k : Int) < (d.rejects.length : Int) := by omega
              have HB3 := hide hh.out.2.1
              have HO3 := hide (show OwnS w.heap.size u4 (usedL d) wr by rw [← used3_end d k (by omega)]; exact hh.out.2.2)
              have HBK3 := hide (HBK.out.below hh.out.2.1)
              clear hu hh
              obtain ⟨wq, rfl⟩ : ∃ wq : World, wq = wr := ⟨_, rfl⟩
              obtain ⟨a, c, rfl, hrw⟩ := HO3.out.row (by have := HTOT.out; omega)
              have HRW := hide hrw
              have htt := HTOT.out
              have bk8 := HBK3.out.bk.cell 8
              have bkl := HBK3.out.bk.lt
              clear hrw
              go_wp2_with fail
              go_loopg [64] (usedL d).length (fun u v64 wr => ∃ k : Nat, Hid (u = (usedL d).length - k) ∧ v64 = .int .i64 (k : Int) ∧ Hid (k ≤ (usedL d).length ∧ ∀ j (h : j < (usedL d).length), j < k → decide (lexOf d.prods (usedL d)[j] = 0) = false) ∧ wq = wr)
              case atStart => exact ⟨0, hide rfl, rfl, hide ⟨Nat.zero_le _, fun j _ h => by omega⟩, rfl⟩
              case round =>
                obtain ⟨k, hu, rfl, hh, rfl⟩ := hrel
                have hkl := hh.out.1
                by_cases hlt : k < (usedL d).length
                · have hlti : (k : Int) < ((usedL d).length : Int) := by omega
                  obtain ⟨b, o, rfl, hb, hat⟩ := HRW.out.get hlt
                  have hx := hat k hlt
                  rw [Nat.mul_one] at hx
                  have HNX := hide (fun (h : decide (lexOf d.prods (usedL d)[k] = 0) = false) => none_next (f := fun s => decide (lexOf d.prods s = 0)) (l := usedL d) (k := k) hh.out.2 (fun _ => rfl) h)
                  have HHI := hide (fun (h : decide (lexOf d.prods (usedL d)[k] = 0) = true) => firstL_hit 43 (fun s => decide (lexOf d.prods s = 0)) (usedL d) k hlt hh.out.2 h)
                  generalize (usedL d)[k] = s at hx HNX HHI
                  clear hat
                  obtain ⟨hsh, f0⟩ := hx
                  have hlk := HBK3.out.mp.look s hsh
                  obtain ⟨n0, hn0⟩ : ∃ n, lexOf d.prods s = n := ⟨_, rfl⟩
                  rw [hn0] at hlk HNX HHI
                  clear hn0
                  by_cases h3 : n0 = 0
                  · subst h3
                    have HF := hide (HHI.out rfl)
                    clear HHI HNX
                    go_wp2_with fail
                    go_ret2
                    exact ⟨by show _ = Ending.returned (.tuple #[.int .i64 (undefL d).1, .string (undefL d).2]); unfold undefL; rw [HF.out]; rfl, HB3.out⟩
                  · have hn3 : (n0 == 0) = false := by simpa using h3
                    have HN := hide (HNX.out (by simpa using h3))
                    clear h3 HHI HNX
                    go_wp2_with fail
                    go_roundg ((usedL d).length - (k + 1))
                    case measure => rw [hu.out]; omega
                    case rel => exact ⟨k + 1, hide rfl, by go_num, hide ⟨hlt, HN.out⟩, rfl⟩
                · have hlti : ¬ (k : Int) < ((usedL d).length : Int) := by omega
                  have HF := hide (firstL_miss 43 (fun s => decide (lexOf d.prods s = 0)) (usedL d) (fun j h => hh.out.2 j h (by omega)))
                  go_wp2_with fail
                  go_ret2
                  exact ⟨by show _ = Ending.returned (.tuple #[.int .i64 (undefL d).1, .string (undefL d).2]); unfold undefL; rw [HF.out]; rfl, HB3.out⟩
end Go.Proofs.Ytalicfpcmcbdbaa
