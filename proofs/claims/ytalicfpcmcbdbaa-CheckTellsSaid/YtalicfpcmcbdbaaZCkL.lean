/- The reference: held. -/
import Derived.Test.YtalicfpcmcbdbaaZCkK
import Derived.Test.YtalicfpcmcbdbaaZOkD
import Derived.BigQuiet
set_option linter.unusedVariables false
set_option linter.unusedSimpArgs false
set_option linter.unnecessarySimpa false
set_option linter.deprecated false
namespace Go.Proofs.Ytalicfpcmcbdbaa
open Go.RowKit

set_option maxHeartbeats 800000 in
set_option maxRecDepth 100000 in
theorem held_any (d : Df) (a2 : Option Addr) (c2 : Nat) (a3 : Option Addr) (c3 : Nat) (a4 : Option Addr) (c4 : Nat) (a5 : Option Addr) (c5 : Nat) (a6 : Option Addr) (c6 : Nat) (s : ByteArray) (w : World) (hd : RD d ⟨a2, c2, a3, c3, a4, c4, a5, c5, a6, c6⟩ w)  : Calls Try.prog 80 #[.agg #[.string d.start, .string d.layout, .slice a2 d.prods.length c2, .slice a3 d.chains.length c3, .slice a4 d.follows.length c4, .slice a5 d.rejects.length c5, .slice a6 d.boxes.length c6], .string s] w fun e w' => e = .returned (.bool (inB s (heldL d))) ∧ Below w.heap.size w w' := by
  have hl4 := hd.f.1
  have hl5 := hd.j.1
  have HD := hide hd
  obtain ⟨res, hres⟩ : ∃ r, inB s (heldL d) = r := ⟨_, rfl⟩
  rw [hres]
  have HRES := hide hres
  clear hres hd
  go_enter Try.func80, Try.ntmps80
  go_upto_region 1 with fail
  obtain ⟨kx, hkx⟩ : ∃ kx, w.heap.size = kx := ⟨_, rfl⟩
  obtain ⟨w1, h1⟩ : ∃ w1, w.alloc (.cells #[.string d.start, .string d.layout, .slice a2 d.prods.length c2, .slice a3 d.chains.length c3, .slice a4 d.follows.length c4, .slice a5 d.rejects.length c5, .slice a6 d.boxes.length c6] 28) = w1 := ⟨_, rfl⟩
  have HB0 := hide (show Below w.heap.size w w1 by rw [← h1]; exact NB.alloc (Below.refl _ _) _)
  have HX0 := hide (show Blk w1 kx #[.string d.start, .string d.layout, .slice a2 d.prods.length c2, .slice a3 d.chains.length c3, .slice a4 d.follows.length c4, .slice a5 d.rejects.length c5, .slice a6 d.boxes.length c6] 28 by rw [← h1, ← hkx]; exact Blk.new w _ _)
  replace HD := hide (HD.out.below HB0.out)
  rw [h1, hkx]
  clear h1 hkx
  have x4 := HX0.out.cell 4
  have x5 := HX0.out.cell 5
  have xl := HX0.out.lt
  go_wp2_with fail
  go_loopg [5] d.rejects.length (fun u v5 wr => ∃ k : Nat, Hid (u = d.rejects.length - k) ∧ v5 = .int .i64 (k : Int) ∧ Hid (k ≤ d.rejects.length ∧ w1 = wr ∧ (∀ j (h : j < d.rejects.length), j < k → (d.rejects[j]).sort ≠ s)))
  case atStart => exact ⟨0, hide rfl, rfl, hide ⟨Nat.zero_le _, rfl, fun _ _ h => absurd h (Nat.not_lt_zero _)⟩⟩
  case round =>
    obtain ⟨k, hu, rfl, hh⟩ := hrel
    have hkl := hh.out.1
    obtain rfl := hh.out.2.1
    by_cases hlt : k < d.rejects.length
    · have hlti : (k : Int) < (d.rejects.length : Int) := by omega
      obtain ⟨b, o, rfl, hb, hat⟩ := HD.out.j.get hlt
      have hx := hat k hlt
      have HNX := hide (fun (hf : (d.rejects[k]).sort ≠ s) => (show ∀ j (h : j < d.rejects.length), j < k + 1 → (d.rejects[j]).sort ≠ s from fun j h hj => by
        by_cases e : j = k
        · subst e; exact hf
        · exact hh.out.2.2 j h (by omega)))
      have HHI := hide (fun (ht : (d.rejects[k]).sort = s) => (show res = true by
        rw [← HRES.out, inB_iff]
        exact List.mem_append_left _ (List.mem_map.2 ⟨_, List.getElem_mem hlt, ht⟩)))
      generalize d.rejects[k] = x at hx HNX HHI
      clear hat hh
      obtain ⟨so, by_⟩ := x
      obtain ⟨e0, e1⟩ := hx.cells
      clear hx e1
      by_cases he : so = s
      · have h1 : (so.toList == s.toList) = true := by rw [he]; simp
        have HF := hide (HHI.out he)
        clear he
        go_wp2_with fail
        go_ret
        exact ⟨by rw [HF.out]; rfl, HB0.out⟩
      · have h1 : (so.toList == s.toList) = false := beq_eq_false_iff_ne.2 (fun h => he ((toList_eq_iff _ _).1 h))
        have HN := hide (HNX.out he)
        clear he
        go_wp2_with fail
        go_roundg (d.rejects.length - (k + 1))
        case measure => rw [hu.out]; omega
        case rel => exact ⟨k + 1, hide rfl, by go_num, hide ⟨hlt, rfl, HN.out⟩⟩
    · have hlti : ¬ (k : Int) < (d.rejects.length : Int) := by omega
      have HR1 := hide (show ∀ j (h : j < d.rejects.length), (d.rejects[j]).sort ≠ s from fun j h => hh.out.2.2 j h (by omega))
      clear hh hu hkl hlt
      go_wp2_with fail
      go_loopg [6] d.follows.length (fun u v6 wr => ∃ k : Nat, Hid (u = d.follows.length - k) ∧ v6 = .int .i64 (k : Int) ∧ Hid (k ≤ d.follows.length ∧ w1 = wr ∧ (∀ j (h : j < d.follows.length), j < k → (d.follows[j]).sort ≠ s)))
      case atStart => exact ⟨0, hide rfl, rfl, hide ⟨Nat.zero_le _, rfl, fun _ _ h => absurd h (Nat.not_lt_zero _)⟩⟩
      case round =>
        obtain ⟨k, hu, rfl, hh⟩ := hrel
        have hkl := hh.out.1
        obtain rfl := hh.out.2.1
        by_cases hlt : k < d.follows.length
        · have hlti : (k : Int) < (d.follows.length : Int) := by omega
          obtain ⟨b, o, rfl, hb, hat⟩ := HD.out.f.get hlt
          have hx := hat k hlt
          have HNX := hide (fun (hf : (d.follows[k]).sort ≠ s) => (show ∀ j (h : j < d.follows.length), j < k + 1 → (d.follows[j]).sort ≠ s from fun j h hj => by
            by_cases e : j = k
            · subst e; exact hf
            · exact hh.out.2.2 j h (by omega)))
          have HHI := hide (fun (ht : (d.follows[k]).sort = s) => (show res = true by
            rw [← HRES.out, inB_iff]
            exact List.mem_append_right _ (List.mem_map.2 ⟨_, List.getElem_mem hlt, ht⟩)))
          generalize d.follows[k] = x at hx HNX HHI
          clear hat hh
          obtain ⟨so, st⟩ := x
          obtain ⟨e0, e1, e2, e3, e4⟩ := hx.cells
          clear hx e1 e2 e3 e4
          by_cases he : so = s
          · have h1 : (so.toList == s.toList) = true := by rw [he]; simp
            have HF := hide (HHI.out he)
            clear he
            go_wp2_with fail
            go_ret
            exact ⟨by rw [HF.out]; rfl, HB0.out⟩
          · have h1 : (so.toList == s.toList) = false := beq_eq_false_iff_ne.2 (fun h => he ((toList_eq_iff _ _).1 h))
            have HN := hide (HNX.out he)
            clear he
            go_wp2_with fail
            go_roundg (d.follows.length - (k + 1))
            case measure => rw [hu.out]; omega
            case rel => exact ⟨k + 1, hide rfl, by go_num, hide ⟨hlt, rfl, HN.out⟩⟩
        · have hlti : ¬ (k : Int) < (d.follows.length : Int) := by omega
          have HF := hide (show res = false by
            rw [← HRES.out, Bool.eq_false_iff, Ne, inB_iff]
            intro h
            rcases List.mem_append.1 h with h | h
            · obtain ⟨x, hx, he⟩ := List.mem_map.1 h
              obtain ⟨j, hj, rfl⟩ := List.mem_iff_getElem.1 hx
              exact HR1.out j hj he
            · obtain ⟨x, hx, he⟩ := List.mem_map.1 h
              obtain ⟨j, hj, rfl⟩ := List.mem_iff_getElem.1 hx
              exact hh.out.2.2 j hj (by omega) he)
          go_wp2_with fail
          go_ret
          exact ⟨by rw [HF.out]; rfl, HB0.out⟩
end Go.Proofs.Ytalicfpcmcbdbaa
