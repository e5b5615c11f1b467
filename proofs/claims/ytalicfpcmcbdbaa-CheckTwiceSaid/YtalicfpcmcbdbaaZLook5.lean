/- The walk of cons. -/
import Derived.Test.YtalicfpcmcbdbaaZLook2
import Derived.Test.YtalicfpcmcbdbaaZCons
set_option linter.unusedVariables false
set_option linter.unusedSimpArgs false
set_option linter.unnecessarySimpa false
set_option linter.deprecated false
namespace Go.Proofs.Ytalicfpcmcbdbaa
open Go.RowKit

/-- The first of a list at which p holds, by its place. -/
def firstI {α : Type} (c : Int) (p : Nat → α → Bool) (nm : α → ByteArray) : List α → Nat → Int × ByteArray
  | [], _ => okL
  | s :: r, k => if p k s = true then (c, nm s) else firstI c p nm r (k + 1)
theorem firstI_hit {α : Type} (c : Int) (p : Nat → α → Bool) (nm : α → ByteArray) : ∀ (l : List α) (s k : Nat) (hk : k < l.length), (∀ j (h : j < l.length), j < k → p (s + j) l[j] = false) → p (s + k) l[k] = true → firstI c p nm l s = (c, nm l[k])
  | [], s, k, hk, _, _ => absurd hk (by simp)
  | x :: xs, s, 0, hk, _, hp => by
    have hp : p s x = true := hp
    rw [firstI, if_pos hp]; rfl
  | x :: xs, s, k + 1, hk, hf, hp => by
    have h0 : p s x = false := hf 0 (by simp) (by omega)
    rw [firstI, if_neg (by rw [h0]; decide)]
    exact firstI_hit c p nm xs (s + 1) k (by simpa using hk) (fun j h hj => by have := hf (j + 1) (by simpa using h) (by omega); rw [show s + 1 + j = s + (j + 1) by omega]; simpa using this) (by rw [show s + 1 + k = s + (k + 1) by omega]; simpa using hp)
theorem firstI_miss {α : Type} (c : Int) (p : Nat → α → Bool) (nm : α → ByteArray) : ∀ (l : List α) (s : Nat), (∀ j (h : j < l.length), p (s + j) l[j] = false) → firstI c p nm l s = okL
  | [], s, _ => rfl
  | x :: xs, s, hf => by
    have h0 : p s x = false := hf 0 (by simp)
    rw [firstI, if_neg (by rw [h0]; decide)]
    exact firstI_miss c p nm xs (s + 1) (fun j h => by have := hf (j + 1) (by simpa using h); rw [show s + 1 + j = s + (j + 1) by omega]; simpa using this)
theorem none_nextI {α : Type} {f : Nat → α → Bool} {l : List α} {k : Nat} (h : ∀ j (h : j < l.length), j < k → f (0 + j) l[j] = false) {x : α} (hk : ∀ (hk : k < l.length), l[k] = x) (hx : f k x = false) : ∀ j (h : j < l.length), j < k + 1 → f (0 + j) l[j] = false := by
  intro j hj hjk
  by_cases e : j = k
  · subst e; rw [hk hj, Nat.zero_add]; exact hx
  · exact h j hj (by omega)
def consHit (d : Df) (k : Nat) (p : Pd) : Bool := !p.lex && decide (0 ≤ consIdx d.prods p.cons) && decide (consIdx d.prods p.cons < (k : Int))
def consLk (d : Df) : Int × ByteArray := firstI 45 (consHit d) Pd.cons d.prods 0
set_option maxHeartbeats 800000 in
set_option maxRecDepth 100000 in
theorem cons_any (d : Df) (a2 : Option Addr) (c2 : Nat) (a3 : Option Addr) (c3 : Nat) (a4 : Option Addr) (c4 : Nat) (a5 : Option Addr) (c5 : Nat) (a6 : Option Addr) (c6 : Nat) (as_ : Option Addr) (cs m n : Nat) (bb : Nat) (w : World) (hbk : Book d a2 c2 a3 c3 a4 c4 a5 c5 a6 c6 as_ cs m n bb w) : Calls Try.prog 41 #[.pointer (some ⟨bb, 0, none⟩)] w fun e w' => e = .returned (.tuple #[.int .i64 ((consLk d).1), .string ((consLk d).2)]) ∧ Below w.heap.size w w' := by
  have hln := hbk.rd.p.1
  have bk0 := hbk.bk.cell 0
  have bk1 := hbk.bk.cell 1
  have bk2 := hbk.bk.cell 2
  have bk3 := hbk.bk.cell 3
  have bk4 := hbk.bk.cell 4
  have bk5 := hbk.bk.cell 5
  have bk6 := hbk.bk.cell 6
  have bk7 := hbk.bk.cell 7
  have bk8 := hbk.bk.cell 8
  have bkl := hbk.bk.lt
  have HBK := hide hbk
  clear hbk
  obtain ⟨res, hres⟩ : ∃ r, consLk d = r := ⟨_, rfl⟩
  have HRES := hide hres
  rw [hres]
  clear hres
  go_enter Try.func41, Try.ntmps41
  go_wp2_with fail
  clear bk0 bk1 bk2 bk3 bk4 bk5 bk6 bk7 bk8 bkl
  go_loopg [13] d.prods.length (fun u v13 wr => ∃ k : Nat, Hid (u = d.prods.length - k) ∧ v13 = .int .i64 (k : Int) ∧ Hid (k ≤ d.prods.length ∧ Below w.heap.size w wr ∧ ∀ j (h : j < d.prods.length), j < k → consHit d (0 + j) d.prods[j] = false))
  case atStart => exact ⟨0, hide rfl, rfl, hide ⟨Nat.zero_le _, Below.refl _ _, fun j _ h => by omega⟩⟩
  case round =>
    obtain ⟨k, hu, rfl, hh⟩ := hrel
    have hkl := hh.out.1
    by_cases hlt : k < d.prods.length
    · have hlti : (k : Int) < (d.prods.length : Int) := by omega
      have hg2 : Row PdAt 5 d.prods a2 wr := (HBK.out.below hh.out.2.1).rd.p
      obtain ⟨b, o, rfl, hb, hat⟩ := hg2.get hlt
      have hx := hat k hlt
      have HNX := hide (fun (h : consHit d k d.prods[k] = false) => none_nextI (f := consHit d) (l := d.prods) (k := k) hh.out.2.2 (fun _ => rfl) h)
      have HHI := hide (fun (h : consHit d k d.prods[k] = true) => firstI_hit 45 (consHit d) Pd.cons d.prods 0 k hlt hh.out.2.2 (by rw [Nat.zero_add]; exact h))
      generalize d.prods[k] = x at hx HNX HHI
      clear hat
      obtain ⟨ap, cp, ⟨e0, e1, e2, e3, e4⟩, hrow⟩ := hx.cells
      obtain ⟨lx, so, cn, br, sy⟩ := x
      clear hx hrow
      go_upto_region 4 with fail
      obtain ⟨w6, h6⟩ : ∃ w6, wr.alloc (.cells #[.bool lx, .string so, .string cn, .bool br, .slice ap sy.length cp] 38) = w6 := ⟨_, rfl⟩
      obtain ⟨kx, hkx⟩ : ∃ kx, wr.heap.size = kx := ⟨_, rfl⟩
      have HB6 := hide (show Below w.heap.size w w6 by rw [← h6]; exact hh.out.2.1.alloc hh.out.2.1.size _)
      have HX6 := hide (show Blk w6 kx #[.bool lx, .string so, .string cn, .bool br, .slice ap sy.length cp] 38 by rw [← h6, ← hkx]; exact Blk.new wr _ _)
      have HBK6 := hide (HBK.out.below HB6.out)
      have HC := hide (Cons_at d _ c2 a3 c3 a4 c4 a5 c5 a6 c6 cn w6.drew (HBK6.out.rd.p.below PdAt.stable (Below.refl _ _).drew))
      rw [h6, hkx]
      clear h6 hkx e0 e1 e2 e3 e4
      have x0 := HX6.out.cell 0
      have x1 := HX6.out.cell 1
      have x2 := HX6.out.cell 2
      have x3 := HX6.out.cell 3
      have x4 := HX6.out.cell 4
      have xl := HX6.out.lt
      have bk0 := HBK6.out.bk.cell 0
      have bk1 := HBK6.out.bk.cell 1
      have bk2 := HBK6.out.bk.cell 2
      have bk3 := HBK6.out.bk.cell 3
      have bk4 := HBK6.out.bk.cell 4
      have bk5 := HBK6.out.bk.cell 5
      have bk6 := HBK6.out.bk.cell 6
      have bkl := HBK6.out.bk.lt
      obtain ⟨ci, hci⟩ : ∃ ci, consIdx d.prods cn = ci := ⟨_, rfl⟩
      rw [hci] at HC
      cases lx
      · by_cases h0 : 0 ≤ ci
        · have g0 : ci ≥ 0 := h0
          by_cases h1 : ci < (k : Int)
          · have HF := hide (HHI.out (show consHit d k ⟨false, so, cn, br, sy⟩ = true by unfold consHit; simp only [hci]; simp [h0, h1]))
            clear HNX HHI hci
            go_still_tail 6, (by kernel_rfl)
            change wpList _ _ _ _ _ w6.drew
            go_wp2_with (go_at_call 21; refine HC.out.mono ?_; rintro e w7 ⟨rfl, hb7⟩; have y0 := (HX6.out.below (below_next (Below.refl w6.heap.size w6).drew hb7)).cell 0; have y2 := (HX6.out.below (below_next (Below.refl w6.heap.size w6).drew hb7)).cell 2; have yl := (HX6.out.below (below_next (Below.refl w6.heap.size w6).drew hb7)).lt)
            go_quiet (fail)
            go_wp2_with fail
            go_ret2
            exact ⟨by rw [← HRES.out]; unfold consLk; rw [HF.out]; rfl, below_next HB6.out ((below_next (Below.refl w6.heap.size w6).drew hb7).trans ⟨rfl, rfl, rfl, Nat.le_refl _, fun _ _ => rfl⟩)⟩
          · have HN := hide (HNX.out (show consHit d k ⟨false, so, cn, br, sy⟩ = false by unfold consHit; simp only [hci]; simp [h1]))
            clear HNX HHI hci
            go_still_tail 6, (by kernel_rfl)
            change wpList _ _ _ _ _ w6.drew
            go_wp2_with (go_at_call 21; refine HC.out.mono ?_; rintro e w7 ⟨rfl, hb7⟩; have y0 := (HX6.out.below (below_next (Below.refl w6.heap.size w6).drew hb7)).cell 0; have y2 := (HX6.out.below (below_next (Below.refl w6.heap.size w6).drew hb7)).cell 2; have yl := (HX6.out.below (below_next (Below.refl w6.heap.size w6).drew hb7)).lt)
            go_roundg (d.prods.length - (k + 1))
            case measure => rw [hu.out]; omega
            case rel => exact ⟨k + 1, hide rfl, by go_num, hide ⟨hlt, below_next HB6.out (below_next (Below.refl w6.heap.size w6).drew hb7), HN.out⟩⟩
        · have g0 : ¬ ci ≥ 0 := h0
          have HN := hide (HNX.out (show consHit d k ⟨false, so, cn, br, sy⟩ = false by unfold consHit; simp only [hci]; simp [h0]))
          clear HNX HHI hci
          go_still_tail 6, (by kernel_rfl)
          change wpList _ _ _ _ _ w6.drew
          go_wp2_with (go_at_call 21; refine HC.out.mono ?_; rintro e w7 ⟨rfl, hb7⟩; have y0 := (HX6.out.below (below_next (Below.refl w6.heap.size w6).drew hb7)).cell 0; have y2 := (HX6.out.below (below_next (Below.refl w6.heap.size w6).drew hb7)).cell 2; have yl := (HX6.out.below (below_next (Below.refl w6.heap.size w6).drew hb7)).lt)
          go_roundg (d.prods.length - (k + 1))
          case measure => rw [hu.out]; omega
          case rel => exact ⟨k + 1, hide rfl, by go_num, hide ⟨hlt, below_next HB6.out (below_next (Below.refl w6.heap.size w6).drew hb7), HN.out⟩⟩
      · have HN := hide (HNX.out (show consHit d k ⟨true, so, cn, br, sy⟩ = false by unfold consHit; rfl))
        clear HNX HHI hci
        go_still_tail 6, (by kernel_rfl)
        change wpList _ _ _ _ _ w6.drew
        go_wp2_with (go_at_call 21; refine HC.out.mono ?_; rintro e w7 ⟨rfl, hb7⟩; have y0 := (HX6.out.below (below_next (Below.refl w6.heap.size w6).drew hb7)).cell 0; have y2 := (HX6.out.below (below_next (Below.refl w6.heap.size w6).drew hb7)).cell 2; have yl := (HX6.out.below (below_next (Below.refl w6.heap.size w6).drew hb7)).lt)
        go_roundg (d.prods.length - (k + 1))
        case measure => rw [hu.out]; omega
        case rel => exact ⟨k + 1, hide rfl, by go_num, hide ⟨hlt, below_next HB6.out (below_next (Below.refl w6.heap.size w6).drew hb7), HN.out⟩⟩
    · have hlti : ¬ (k : Int) < (d.prods.length : Int) := by omega
      have HF := hide (show consLk d = okL from firstI_miss 45 (consHit d) Pd.cons d.prods 0 (fun j h => hh.out.2.2 j h (by omega)))
      go_wp2_with fail
      go_ret2
      exact ⟨by rw [← HRES.out, HF.out]; rfl, hh.out.2.1⟩
end Go.Proofs.Ytalicfpcmcbdbaa
