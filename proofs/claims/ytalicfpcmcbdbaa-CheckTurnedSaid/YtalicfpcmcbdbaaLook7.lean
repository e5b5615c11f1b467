/- The walk of ends. -/
import Derived.Test.YtalicfpcmcbdbaaLook1
import Derived.Test.YtalicfpcmcbdbaaNamed
import Derived.Test.YtalicfpcmcbdbaaEqS
set_option linter.unusedVariables false
set_option linter.unusedSimpArgs false
set_option linter.unnecessarySimpa false
set_option linter.deprecated false
namespace Go.Proofs.Ytalicfpcmcbdbaa
open Go.RowKit

/-- Start and layout are of their kinds. -/
def endsL (d : Df) : Int × ByteArray := if lexOf d.prods d.start = 2 then (if emp d.layout = true ∨ lexOf d.prods d.layout = 1 then okL else (41, d.layout)) else (40, d.start)
set_option maxHeartbeats 800000 in
set_option maxRecDepth 100000 in
theorem ends_any (d : Df) (a2 : Option Addr) (c2 : Nat) (a3 : Option Addr) (c3 : Nat) (a4 : Option Addr) (c4 : Nat) (a5 : Option Addr) (c5 : Nat) (a6 : Option Addr) (c6 : Nat) (as_ : Option Addr) (cs m n : Nat) (bb : Nat) (w : World) (hbk : Book d a2 c2 a3 c3 a4 c4 a5 c5 a6 c6 as_ cs m n bb w) : Calls Try.prog 37 #[.pointer (some ⟨bb, 0, none⟩)] w fun e w' => e = .returned (.tuple #[.int .i64 ((endsL d).1), .string ((endsL d).2)]) ∧ Below w.heap.size w w' := by
  have bk0 := hbk.bk.cell 0
  have bk1 := hbk.bk.cell 1
  have bk2 := hbk.bk.cell 2
  have bk3 := hbk.bk.cell 3
  have bk4 := hbk.bk.cell 4
  have bk5 := hbk.bk.cell 5
  have bk6 := hbk.bk.cell 6
  have bk7 := hbk.bk.cell 7
  have bk8 := hbk.bk.cell 8
  have bkl := hbk.bk.lt
  have HBK := hide hbk
  clear hbk
  obtain ⟨res, hres⟩ : ∃ r, endsL d = r := ⟨_, rfl⟩
  have HRES := hide hres
  rw [hres]
  clear hres
  obtain ⟨n0, hn0⟩ : ∃ n0, lexOf d.prods d.start = n0 := ⟨_, rfl⟩
  obtain ⟨n1, hn1⟩ : ∃ n1, lexOf d.prods d.layout = n1 := ⟨_, rfl⟩
  have hl0 : ∀ n, (Instr.lookup 85 (.map (some m)) (.string d.start) false).run Try.prog (w.drewN n) = .ok (.int .i64 n0) (w.drewN n) := fun n => by
    have := (show MapF (w.drewN n) m _ (lexOf d.prods) from HBK.out.mp).look d.start HBK.out.rd.s
    rw [hn0] at this; exact this
  have hl1 : ∀ n, (Instr.lookup 85 (.map (some m)) (.string d.layout) false).run Try.prog (w.drewN n) = .ok (.int .i64 n1) (w.drewN n) := fun n => by
    have := (show MapF (w.drewN n) m _ (lexOf d.prods) from HBK.out.mp).look d.layout HBK.out.rd.l
    rw [hn1] at this; exact this
  have hl2 : ∀ n k, (Instr.lookup 85 (.map (some m)) (.string d.layout) false).run Try.prog ((w.drewN n).drewN k) = .ok (.int .i64 n1) ((w.drewN n).drewN k) := fun n k => by
    have := (show MapF ((w.drewN n).drewN k) m _ (lexOf d.prods) from HBK.out.mp).look d.layout HBK.out.rd.l
    rw [hn1] at this; exact this
  by_cases h2 : n0 = 2
  · subst h2
    rcases emp_or d.layout with ⟨bn, zn, y1, y2, y3⟩ | ⟨bn, zn, y1, y2, y3⟩
    · have HF := hide (show res = okL by rw [← HRES.out]; unfold endsL; rw [if_pos hn0, if_pos (Or.inl zn.out)])
      clear hl1 hl2 hn0 hn1
      go_enter Try.func37, Try.ntmps37
      go_upto_region 1 with fail
      go_quiet (fail)
      go_upto_region 3 with fail
      go_quiet (fail)
      go_wp2_with fail
      go_ret2
      exact ⟨by rw [HF.out]; rfl, (Below.refl w.heap.size w).trans ⟨rfl, rfl, rfl, Nat.le_refl _, fun _ _ => rfl⟩⟩
    · by_cases h1 : n1 = 1
      · subst h1
        have HF := hide (show res = okL by rw [← HRES.out]; unfold endsL; rw [if_pos hn0, if_pos (Or.inr hn1)])
        clear hn0 hn1
        go_enter Try.func37, Try.ntmps37
        go_upto_region 1 with fail
        go_quiet (fail)
        go_upto_region 3 with fail
        go_quiet (fail)
        go_wp2_with fail
        go_ret2
        exact ⟨by rw [HF.out]; rfl, (Below.refl w.heap.size w).trans ⟨rfl, rfl, rfl, Nat.le_refl _, fun _ _ => rfl⟩⟩
      · have HF := hide (show res = (41, d.layout) by rw [← HRES.out]; unfold endsL; rw [if_pos hn0, if_neg (by rw [zn.out, hn1]; simp [h1])])
        have q1 : (n1 == 1) = false := by simpa using h1
        have q2 : (n1 != 1) = true := by simpa using h1
        clear hn0 hn1
        go_enter Try.func37, Try.ntmps37
        go_upto_region 1 with fail
        go_quiet (fail)
        go_upto_region 3 with fail
        go_quiet (fail)
        go_upto_region 4 with fail
        go_quiet (fail)
        go_wp2_with fail
        go_ret2
        exact ⟨by rw [HF.out]; rfl, (Below.refl w.heap.size w).trans ⟨rfl, rfl, rfl, Nat.le_refl _, fun _ _ => rfl⟩⟩
  · have HF := hide (show res = (40, d.start) by rw [← HRES.out]; unfold endsL; rw [if_neg (by rw [hn0]; exact h2)])
    have q1 : (n0 == 2) = false := by simpa using h2
    have q2 : (n0 != 2) = true := by simpa using h2
    clear hn0 hn1 hl1 hl2
    go_enter Try.func37, Try.ntmps37
    go_upto_region 1 with fail
    go_quiet (fail)
    go_upto_region 2 with fail
    go_quiet (fail)
    go_wp2_with fail
    go_ret2
    exact ⟨by rw [HF.out]; rfl, (Below.refl w.heap.size w).trans ⟨rfl, rfl, rfl, Nat.le_refl _, fun _ _ => rfl⟩⟩
end Go.Proofs.Ytalicfpcmcbdbaa
