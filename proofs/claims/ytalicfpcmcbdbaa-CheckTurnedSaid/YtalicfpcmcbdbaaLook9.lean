/- The walk of follow. -/
import Derived.Test.YtalicfpcmcbdbaaLook2
import Derived.Test.YtalicfpcmcbdbaaEqS
set_option linter.unusedVariables false
set_option linter.unusedSimpArgs false
set_option linter.unnecessarySimpa false
set_option linter.deprecated false
namespace Go.Proofs.Ytalicfpcmcbdbaa
open Go.RowKit

def followL (d : Df) : Int × ByteArray := firstG 51 (fun f => decide (f.set = zS)) Fl.sort d.follows
set_option maxHeartbeats 800000 in
set_option maxRecDepth 100000 in
theorem follow_any (d : Df) (a2 : Option Addr) (c2 : Nat) (a3 : Option Addr) (c3 : Nat) (a4 : Option Addr) (c4 : Nat) (a5 : Option Addr) (c5 : Nat) (a6 : Option Addr) (c6 : Nat) (as_ : Option Addr) (cs m n : Nat) (bb : Nat) (w : World) (hbk : Book d a2 c2 a3 c3 a4 c4 a5 c5 a6 c6 as_ cs m n bb w) : Calls Try.prog 48 #[.pointer (some ⟨bb, 0, none⟩)] w fun e w' => e = .returned (.tuple #[.int .i64 ((followL d).1), .string ((followL d).2)]) ∧ Below w.heap.size w w' := by
  have hln := hbk.rd.f.1
  have bk0 := hbk.bk.cell 0
  have bk1 := hbk.bk.cell 1
  have bk2 := hbk.bk.cell 2
  have bk3 := hbk.bk.cell 3
  have bk4 := hbk.bk.cell 4
  have bk5 := hbk.bk.cell 5
  have bk6 := hbk.bk.cell 6
  have bk7 := hbk.bk.cell 7
  have bk8 := hbk.bk.cell 8
  have bkl := hbk.bk.lt
  have HBK := hide hbk
  clear hbk
  obtain ⟨res, hres⟩ : ∃ r, followL d = r := ⟨_, rfl⟩
  have HRES := hide hres
  rw [hres]
  clear hres
  go_enter Try.func48, Try.ntmps48
  go_wp2_with fail
  clear bk0 bk1 bk2 bk3 bk4 bk5 bk6 bk7 bk8 bkl
  go_loopg [12] d.follows.length (fun u v12 wr => ∃ k : Nat, Hid (u = d.follows.length - k) ∧ v12 = .int .i64 (k : Int) ∧ Hid (k ≤ d.follows.length ∧ Below w.heap.size w wr ∧ ∀ j (h : j < d.follows.length), j < k → decide (d.follows[j].set = zS) = false))
  case atStart => exact ⟨0, hide rfl, rfl, hide ⟨Nat.zero_le _, Below.refl _ _, fun j _ h => by omega⟩⟩
  case round =>
    obtain ⟨k, hu, rfl, hh⟩ := hrel
    have hkl := hh.out.1
    by_cases hlt : k < d.follows.length
    · have hlti : (k : Int) < (d.follows.length : Int) := by omega
      obtain ⟨b, o, rfl, hb, hat⟩ := (HBK.out.below hh.out.2.1).rd.f.get hlt
      have hx := hat k hlt
      have HNX := hide (fun (h : decide (d.follows[k].set = zS) = false) => none_next (f := fun f => decide (f.set = zS)) (l := d.follows) (k := k) hh.out.2.2 (fun _ => rfl) h)
      have HHI := hide (fun (h : decide (d.follows[k].set = zS) = true) => firstG_hit 51 (fun f => decide (f.set = zS)) Fl.sort d.follows k hlt hh.out.2.2 h)
      generalize d.follows[k] = x at hx HNX HHI
      clear hat
      obtain ⟨e0, e1, e2, e3, e4⟩ := hx.cells
      obtain ⟨so, st⟩ := x
      have hso : st.ok := hx.1.s
      have HB2 := hide (hh.out.2.1.alloc hh.out.2.1.size (.cells #[.string so, .int .u64 (st.w0 : Int), .int .u64 (st.w1 : Int), .int .u64 (st.w2 : Int), .int .u64 (st.w3 : Int)] 48))
      have HXN := hide (Blk.new wr #[.string so, .int .u64 (st.w0 : Int), .int .u64 (st.w1 : Int), .int .u64 (st.w2 : Int), .int .u64 (st.w3 : Int)] 48)
      have hqs := fun W => eql_zero st hso W
      clear hx hso
      obtain ⟨q, hq⟩ : ∃ q, decide (st = zS) = q := ⟨_, rfl⟩
      simp only [hq] at hqs
      replace HNX := hide (fun (h : q = false) => HNX.out (hq.trans h))
      replace HHI := hide (fun (h : q = true) => HHI.out (hq.trans h))
      clear hq
      cases q
      · have HN := hide (HNX.out rfl)
        clear HHI HNX
        go_wp2_with fail
        go_roundg (d.follows.length - (k + 1))
        case measure => rw [hu.out]; omega
        case rel => exact ⟨k + 1, hide rfl, by go_num, hide ⟨hlt, HB2.out, HN.out⟩⟩
      · have HF := hide (HHI.out rfl)
        clear HHI HNX
        go_upto_region 5 with fail
        obtain ⟨w6, h6⟩ : ∃ w6, wr.alloc (.cells #[.string so, .int .u64 (st.w0 : Int), .int .u64 (st.w1 : Int), .int .u64 (st.w2 : Int), .int .u64 (st.w3 : Int)] 48) = w6 := ⟨_, rfl⟩
        obtain ⟨kx, hkx⟩ : ∃ kx, wr.heap.size = kx := ⟨_, rfl⟩
        have HX6 : Blk w6 kx #[.string so, .int .u64 (st.w0 : Int), .int .u64 (st.w1 : Int), .int .u64 (st.w2 : Int), .int .u64 (st.w3 : Int)] 48 := by rw [← h6, ← hkx]; exact HXN.out
        have x0 := HX6.cell 0
        have xl := HX6.lt
        replace HB2 := hide (show Below w.heap.size w w6 by rw [← h6]; exact HB2.out)
        rw [h6, hkx]
        clear h6 hkx HX6 e0 e1 e2 e3 e4 hb
        go_quiet (fail)
        go_wp2_with fail
        go_ret2
        exact ⟨by rw [← HRES.out]; unfold followL; rw [HF.out]; rfl, HB2.out.trans ⟨rfl, rfl, rfl, Nat.le_refl _, fun _ _ => rfl⟩⟩
    · have hlti : ¬ (k : Int) < (d.follows.length : Int) := by omega
      have HF := hide (show followL d = okL from firstG_miss 51 (fun f : Fl => decide (f.set = zS)) Fl.sort d.follows (fun j h => hh.out.2.2 j h (by omega)))
      go_wp2_with fail
      go_ret2
      exact ⟨by rw [← HRES.out, HF.out]; rfl, hh.out.2.1⟩
end Go.Proofs.Ytalicfpcmcbdbaa
