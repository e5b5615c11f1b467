/- The walk of cycle. The walk of follow. -/
import Derived.Test.YtalicfpcmcbdbaaZLook2
import Derived.Test.YtalicfpcmcbdbaaZRcWalk
import Derived.Test.YtalicfpcmcbdbaaZBare
import Derived.Test.YtalicfpcmcbdbaaZEqS
set_option linter.unusedVariables false
set_option linter.unusedSimpArgs false
set_option linter.unnecessarySimpa false
set_option linter.deprecated false
namespace Go.Proofs.Ytalicfpcmcbdbaa
open Go.RowKit

/-- The sorts that reach themselves by bare productions. -/
theorem reach_dec (ps : List Pd) (stp : Pd → List ByteArray) (s t : ByteArray) : Reach ps stp s t ∨ ¬ Reach ps stp s t := Classical.em _
open Classical in
noncomputable def cycleL (d : Df) : Int × ByteArray := firstL 48 (fun s => decide (Reach d.prods bareL s s)) (sortsL d.prods)
set_option maxHeartbeats 800000 in
set_option maxRecDepth 100000 in
open Classical in
theorem cycle_any (d : Df) (a2 : Option Addr) (c2 : Nat) (a3 : Option Addr) (c3 : Nat) (a4 : Option Addr) (c4 : Nat) (a5 : Option Addr) (c5 : Nat) (a6 : Option Addr) (c6 : Nat) (as_ : Option Addr) (cs m n : Nat) (bb : Nat) (w : World) (hbk : Book d a2 c2 a3 c3 a4 c4 a5 c5 a6 c6 as_ cs m n bb w) (hall : (d.prods.flatMap bareL).length ≤ 99999) (hdl : d.prods.length ≤ 100000) (hsl : ∀ p ∈ d.prods, p.syms.length ≤ 100000) : Calls Try.prog 45 #[.pointer (some ⟨bb, 0, none⟩)] w fun e w' => e = .returned (.tuple #[.int .i64 ((cycleL d).1), .string ((cycleL d).2)]) ∧ Below w.heap.size w w' := by
  have bk0 := hbk.bk.cell 0
  have bk1 := hbk.bk.cell 1
  have bk2 := hbk.bk.cell 2
  have bk3 := hbk.bk.cell 3
  have bk4 := hbk.bk.cell 4
  have bk5 := hbk.bk.cell 5
  have bk6 := hbk.bk.cell 6
  have bk7 := hbk.bk.cell 7
  have bk8 := hbk.bk.cell 8
  have bkl := hbk.bk.lt
  have HBK := hide hbk
  clear hbk
  have hln := HBK.out.so.1
  have HRC := hide (fun s W (hs : short s) (hW : Below w.heap.size w W) => reach_at d a2 c2 a3 c3 a4 c4 a5 c5 a6 c6 as_ cs m n bb s 73 bareL (by intro args w; exact enters_of Try.func73 (by kernel_rfl) rfl args w) W (HBK.out.below hW) hs hall hdl (fun W p ap cp hp hr => bare_at p ap cp W hr (hsl p hp)))
  clear hall hdl hsl
  go_enter Try.func45, Try.ntmps45
  go_wp2_with fail
  go_loopg [11] (sortsL d.prods).length (fun u v11 wr => ∃ k : Nat, Hid (u = (sortsL d.prods).length - k) ∧ v11 = .int .i64 (k : Int) ∧ Hid (k ≤ (sortsL d.prods).length ∧ Below w.heap.size w wr ∧ ∀ j (h : j < (sortsL d.prods).length), j < k → ¬ Reach d.prods bareL (sortsL d.prods)[j] (sortsL d.prods)[j]))
  case atStart => exact ⟨0, hide rfl, rfl, hide ⟨Nat.zero_le _, Below.refl _ _, fun j _ h => by omega⟩⟩
  case round =>
    obtain ⟨k, hu, rfl, hh⟩ := hrel
    have hkl := hh.out.1
    by_cases hlt : k < (sortsL d.prods).length
    · have hlti : (k : Int) < ((sortsL d.prods).length : Int) := by omega
      obtain ⟨b, o, rfl, hb, hat⟩ := (HBK.out.below hh.out.2.1).so.get hlt
      have hx := hat k hlt
      rw [Nat.mul_one] at hx
      have HNX := hide (fun (h : ¬ Reach d.prods bareL (sortsL d.prods)[k] (sortsL d.prods)[k]) => (show ∀ j (h : j < (sortsL d.prods).length), j < k + 1 → ¬ Reach d.prods bareL (sortsL d.prods)[j] (sortsL d.prods)[j] from fun j hj hjk => by
        by_cases e : j = k
        · subst e; exact h
        · exact hh.out.2.2 j hj (by omega)))
      have HHI := hide (fun (h : Reach d.prods bareL (sortsL d.prods)[k] (sortsL d.prods)[k]) => (show cycleL d = (48, (sortsL d.prods)[k]) from firstL_hit 48 _ (sortsL d.prods) k hlt (fun j h hj => decide_eq_false (hh.out.2.2 j h hj)) (decide_eq_true h)))
      generalize (sortsL d.prods)[k] = s at hx HNX HHI
      clear hat
      obtain ⟨hsh, f0⟩ := hx
      have HSH := hide hsh
      have HC := hide (HRC.out s wr hsh hh.out.2.1)
      clear hsh
      go_upto_region 4 with fail
      go_wp2_with (refine HC.out.mono ?_)
      rintro e w5 ⟨mb, nn, met, rfl, hq⟩
      have HB5 := hide (below_next hh.out.2.1 hq.out.2.2.2.2.2)
      have hlk := hq.out.1.look s HSH.out
      rcases Classical.em (Reach d.prods bareL s s) with h3 | h3
      · have h4 : metF met s = 1 := by unfold metF; rw [if_pos ((inB_iff s met).2 ((hq.out.2.1 s).2 h3))]
        rw [h4] at hlk
        have HF := hide (HHI.out h3)
        clear HHI HNX h3 h4
        go_wp2_with fail
        go_ret2
        exact ⟨by rw [HF.out]; rfl, HB5.out⟩
      · have h4 : metF met s = 0 := by unfold metF; rw [if_neg (fun h => h3 ((hq.out.2.1 s).1 ((inB_iff s met).1 h)))]
        rw [h4] at hlk
        have HN := hide (HNX.out h3)
        clear HHI HNX h3 h4
        go_wp2_with fail
        go_roundg ((sortsL d.prods).length - (k + 1))
        case measure => rw [hu.out]; omega
        case rel => exact ⟨k + 1, hide rfl, by go_num, hide ⟨hlt, HB5.out, HN.out⟩⟩
    · have hlti : ¬ (k : Int) < ((sortsL d.prods).length : Int) := by omega
      have HF := hide (show cycleL d = okL from firstL_miss 48 _ (sortsL d.prods) (fun j h => decide_eq_false (hh.out.2.2 j h (by omega))))
      go_wp2_with fail
      go_ret2
      exact ⟨by rw [HF.out]; rfl, hh.out.2.1⟩
end Go.Proofs.Ytalicfpcmcbdbaa

set_option linter.unusedVariables false
set_option linter.unusedSimpArgs false
set_option linter.unnecessarySimpa false
set_option linter.deprecated false
namespace Go.Proofs.Ytalicfpcmcbdbaa
open Go.RowKit

def followL (d : Df) : Int × ByteArray := firstG 51 (fun f => decide (f.set = zS)) Fl.sort d.follows
set_option maxHeartbeats 800000 in
set_option maxRecDepth 100000 in
theorem follow_any (d : Df) (a2 : Option Addr) (c2 : Nat) (a3 : Option Addr) (c3 : Nat) (a4 : Option Addr) (c4 : Nat) (a5 : Option Addr) (c5 : Nat) (a6 : Option Addr) (c6 : Nat) (as_ : Option Addr) (cs m n : Nat) (bb : Nat) (w : World) (hbk : Book d a2 c2 a3 c3 a4 c4 a5 c5 a6 c6 as_ cs m n bb w) : Calls Try.prog 48 #[.pointer (some ⟨bb, 0, none⟩)] w fun e w' => e = .returned (.tuple #[.int .i64 ((followL d).1), .string ((followL d).2)]) ∧ Below w.heap.size w w' := by
  have hln := hbk.rd.f.1
  have bk0 := hbk.bk.cell 0
  have bk1 := hbk.bk.cell 1
  have bk2 := hbk.bk.cell 2
  have bk3 := hbk.bk.cell 3
  have bk4 := hbk.bk.cell 4
  have bk5 := hbk.bk.cell 5
  have bk6 := hbk.bk.cell 6
  have bk7 := hbk.bk.cell 7
  have bk8 := hbk.bk.cell 8
  have bkl := hbk.bk.lt
  have HBK := hide hbk
  clear hbk
  obtain ⟨res, hres⟩ : ∃ r, followL d = r := ⟨_, rfl⟩
  have HRES := hide hres
  rw [hres]
  clear hres
  go_enter Try.func48, Try.ntmps48
  go_wp2_with fail
  clear bk0 bk1 bk2 bk3 bk4 bk5 bk6 bk7 bk8 bkl
  go_loopg [12] d.follows.length (fun u v12 wr => ∃ k : Nat, Hid (u = d.follows.length - k) ∧ v12 = .int .i64 (k : Int) ∧ Hid (k ≤ d.follows.length ∧ Below w.heap.size w wr ∧ ∀ j (h : j < d.follows.length), j < k → decide (d.follows[j].set = zS) = false))
  case atStart => exact ⟨0, hide rfl, rfl, hide ⟨Nat.zero_le _, Below.refl _ _, fun j _ h => by omega⟩⟩
  case round =>
    obtain ⟨k, hu, rfl, hh⟩ := hrel
    have hkl := hh.out.1
    by_cases hlt : k < d.follows.length
    · have hlti : (k : Int) < (d.follows.length : Int) := by omega
      obtain ⟨b, o, rfl, hb, hat⟩ := (HBK.out.below hh.out.2.1).rd.f.get hlt
      have hx := hat k hlt
      have HNX := hide (fun (h : decide (d.follows[k].set = zS) = false) => none_next (f := fun f => decide (f.set = zS)) (l := d.follows) (k := k) hh.out.2.2 (fun _ => rfl) h)
      have HHI := hide (fun (h : decide (d.follows[k].set = zS) = true) => firstG_hit 51 (fun f => decide (f.set = zS)) Fl.sort d.follows k hlt hh.out.2.2 h)
      generalize d.follows[k] = x at hx HNX HHI
      clear hat
      obtain ⟨e0, e1, e2, e3, e4⟩ := hx.cells
      obtain ⟨so, st⟩ := x
      have hso : st.ok := hx.1.s
      have HB2 := hide (hh.out.2.1.alloc hh.out.2.1.size (.cells #[.string so, .int .u64 (st.w0 : Int), .int .u64 (st.w1 : Int), .int .u64 (st.w2 : Int), .int .u64 (st.w3 : Int)] 48))
      have HXN := hide (Blk.new wr #[.string so, .int .u64 (st.w0 : Int), .int .u64 (st.w1 : Int), .int .u64 (st.w2 : Int), .int .u64 (st.w3 : Int)] 48)
      have hqs := fun W => eql_zero st hso W
      clear hx hso
      obtain ⟨q, hq⟩ : ∃ q, decide (st = zS) = q := ⟨_, rfl⟩
      simp only [hq] at hqs
      replace HNX := hide (fun (h : q = false) => HNX.out (hq.trans h))
      replace HHI := hide (fun (h : q = true) => HHI.out (hq.trans h))
      clear hq
      cases q
      · have HN := hide (HNX.out rfl)
        clear HHI HNX
        go_wp2_with fail
        go_roundg (d.follows.length - (k + 1))
        case measure => rw [hu.out]; omega
        case rel => exact ⟨k + 1, hide rfl, by go_num, hide ⟨hlt, HB2.out, HN.out⟩⟩
      · have HF := hide (HHI.out rfl)
        clear HHI HNX
        go_upto_region 5 with fail
        obtain ⟨w6, h6⟩ : ∃ w6, wr.alloc (.cells #[.string so, .int .u64 (st.w0 : Int), .int .u64 (st.w1 : Int), .int .u64 (st.w2 : Int), .int .u64 (st.w3 : Int)] 48) = w6 := ⟨_, rfl⟩
        obtain ⟨kx, hkx⟩ : ∃ kx, wr.heap.size = kx := ⟨_, rfl⟩
        have HX6 : Blk w6 kx #[.string so, .int .u64 (st.w0 : Int), .int .u64 (st.w1 : Int), .int .u64 (st.w2 : Int), .int .u64 (st.w3 : Int)] 48 := by rw [← h6, ← hkx]; exact HXN.out
        have x0 := HX6.cell 0
        have xl := HX6.lt
        replace HB2 := hide (show Below w.heap.size w w6 by rw [← h6]; exact HB2.out)
        rw [h6, hkx]
        clear h6 hkx HX6 e0 e1 e2 e3 e4 hb
        go_quiet (fail)
        go_wp2_with fail
        go_ret2
        exact ⟨by rw [← HRES.out]; unfold followL; rw [HF.out]; rfl, HB2.out.trans ⟨rfl, rfl, rfl, Nat.le_refl _, fun _ _ => rfl⟩⟩
    · have hlti : ¬ (k : Int) < (d.follows.length : Int) := by omega
      have HF := hide (show followL d = okL from firstG_miss 51 (fun f : Fl => decide (f.set = zS)) Fl.sort d.follows (fun j h => hh.out.2.2 j h (by omega)))
      go_wp2_with fail
      go_ret2
      exact ⟨by rw [← HRES.out, HF.out]; rfl, hh.out.2.1⟩
end Go.Proofs.Ytalicfpcmcbdbaa
