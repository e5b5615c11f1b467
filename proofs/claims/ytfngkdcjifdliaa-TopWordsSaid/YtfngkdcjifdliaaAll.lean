/- The iterator of charset.All. -/
import Derived.Test.YtfngkdcjifdliaaRange
import Derived.Test.YtfngkdcjifdliaaSets
import Derived.Maps.OwnIn
import Derived.Deep.CutRange
set_option linter.unusedVariables false
set_option linter.unusedSimpArgs false
set_option linter.unnecessarySimpa false
set_option linter.deprecated false
namespace Go.Proofs.Ytfngkdcjifdliaa
open Go.RowKit Go.Shelf
attribute [local go_sem] Oper.semAt_some

theorem hdw {k : Nat} : Fence.wide.depth.isSome = true → 1 ≤ k := fun h => by simp [Fence.wide] at h
theorem bytesTo_len (s : St) (i : Nat) : (bytesTo s i).length ≤ i := by
  unfold bytesTo
  have := List.length_filter_le (has s) (List.range i)
  rw [List.length_range] at this
  exact this
/-- What is handed on. -/
def RAl (s : St) (pr : List Nat) (x : Nat) (W0 W1 : World) : Prop := x < 256 ∧ has s x = true ∧ pr = bytesTo s x
/-- What stands at the head of a round. -/
structure AlRel (Wr : Nat → TypeId → Prop) (J : List Nat → World → Prop) (s : St) (W : World) (i : Nat) (wr : World) : Prop where
  le : i ≤ 256
  at' : J (bytesTo s i) wr
  keep : KC Wr W wr

set_option maxHeartbeats 2000000 in
set_option maxRecDepth 100000 in
theorem all_iter (s : St) (hs : s.ok) (bx : Nat) (w : World) (Wr : Nat → TypeId → Prop) (hbx : Blk w bx (svC s) 24) (hnx : ¬ Wr bx 24) :
    Iter Try.prog 30 #[.pointer (some ⟨bx, 0, none⟩)] (fun x : Nat => #[.int .u8 (x : Int)]) (RAl s) Wr (fun ys => ys = bytesTo s 256) (fun _ => True) 256 w := by
  intro l J Jx W hb hJ hJx hY h0 n
  have HBX := hide (hbx.below hb)
  have HY := hide hY
  have HJ := hide hJ
  have H0 := hide h0
  clear hbx hb hY hJ hJx h0
  refine callsIn_of_wp Try.func30 rfl trivial ?_ rfl
  simp only [Try.ntmps30, List.size_toArray, List.length_cons, List.length_nil, Nat.reduceAdd, Nat.reduceSub, Array.replicate_succ, Array.replicate_zero, List.push_toArray, List.append_toArray, List.nil_append, List.cons_append]
  gi_wp2_with fail
  gi_loopw [3] (fun i wr => ∃ k : Nat, i = .int .i64 (k : Int) ∧ Hid (AlRel Wr J s W k wr)) (fun i wr => (256 - intOf i).toNat)
  case atStart => exact ⟨0, rfl, ⟨Nat.zero_le _, H0.out, KC.refl _ _⟩⟩
  case round =>
    obtain ⟨k, rfl, hr⟩ := hrel
    have hle := hr.out.le
    by_cases hlt : k < 256
    · have hlti : (k : Int) < 256 := by omega
      have hbx' := hr.out.keep.blk hnx HBX.out
      have e0 := hbx'.cell 0
      have e1 := hbx'.cell 1
      have e2 := hbx'.cell 2
      have e3 := hbx'.cell 3
      have el := hbx'.lt
      have HH := hide (Has_any s hs k hlt wr)
      have HR := hide hr.out
      clear hbx' hr
      cases hh : has s k with
      | false =>
        rw [hh] at HH
        have HE := hide (show bytesTo s (k + 1) = bytesTo s k by rw [bytesTo_succ, hh]; rfl)
        gi_wp2_with fail
        refine ⟨trivial, hdw, ?_⟩
        refine (callsIn_wide.2 HH.out).mono ?_
        rintro e w2 ⟨rfl, h2⟩
        have ht := Turn.of_below h2 (Nat.le_refl _)
        have HJ2 := hide (HJ.out _ _ _ HR.out.at' (ht.mono HR.out.keep.size))
        have HK2 := hide (HR.out.keep.trans ht.kc)
        clear h2 ht
        gi_wp2_with fail
        refine ⟨(fun f h => nomatch h), ?_⟩
        gi_wp2_with fail
        go_roundw
        case rel => exact ⟨k + 1, rfl, ⟨hlt, by rw [HE.out]; exact HJ2.out, HK2.out⟩⟩
        case measure => simp [intOf] <;> omega
      | true =>
        rw [hh] at HH
        have HE := hide (show bytesTo s k ++ [k] = bytesTo s (k + 1) by rw [bytesTo_succ, hh]; rfl)
        have HRX := hide (show RAl s (bytesTo s k) k wr wr from ⟨hlt, hh, rfl⟩)
        gi_wp2_with fail
        refine ⟨trivial, hdw, ?_⟩
        refine (callsIn_wide.2 HH.out).mono ?_
        rintro e w2 ⟨rfl, h2⟩
        have HB2 := hide h2
        obtain ⟨fn, tmps, assign, body, hy, hR⟩ := HY.out (n - 1) (bytesTo s k) k wr w2 HR.out.at' h2 ⟨hlt, hh, rfl⟩ (by have := bytesTo_len s k; omega)
        have HRR := hide hR
        have HK2 := hide (Turn.kc (Wr := Wr) (Turn.of_below h2 (Nat.le_refl _)))
        clear h2 hR
        gi_wp2_with fail
        refine ⟨hdw, HRR.out.mono ?_⟩
        rintro e w3 (⟨rfl, hj2, hk2⟩ | ⟨rfl, hx2⟩)
        · have HJ2 := hide hj2
          have HK3 := hide (HR.out.keep.trans (HK2.out.trans hk2))
          clear hj2 hk2
          gi_wp2_with fail
          go_roundw
          case rel => exact ⟨k + 1, rfl, ⟨hlt, by rw [← HE.out]; exact HJ2.out, HK3.out⟩⟩
          case measure => simp [intOf] <;> omega
        · have HX2 := hide hx2
          clear hx2
          gi_wp2_with fail
          refine bodyPost_ret (results_none rfl _ _ _) rfl ?_
          exact ⟨⟨_, rfl⟩, .inr ⟨_, trivial, HX2.out⟩⟩
    · obtain rfl : k = 256 := by omega
      have HR := hide (show J (bytesTo s 256) wr from hr.out.at')
      gi_wp2_with fail
      go_end0
      exact ⟨⟨_, rfl⟩, .inl ⟨_, rfl, HR.out⟩⟩
end Go.Proofs.Ytfngkdcjifdliaa
