/- The walk of reject. What Check answers. When Check tells nothing. -/
import Derived.Test.YtalicfpcmcbdbaaZLook7
import Derived.Test.YtalicfpcmcbdbaaZRcWalk
import Derived.Test.YtalicfpcmcbdbaaZNames
import Derived.Test.YtalicfpcmcbdbaaZRgS
import Derived.Test.YtalicfpcmcbdbaaZCons
import Derived.Test.YtalicfpcmcbdbaaZChk
set_option linter.unusedVariables false
set_option linter.unusedSimpArgs false
set_option linter.unnecessarySimpa false
set_option linter.deprecated false
namespace Go.Proofs.Ytalicfpcmcbdbaa
open Go.RowKit

/-- How often a name stands in a list. -/
def cntF (l : List ByteArray) : ByteArray → Int := fun s => ((l.filter (fun t => decide (t = s))).length : Int)
theorem cntF_nil : cntF [] = fun _ => 0 := by funext s; rfl
theorem cntF_snoc (l : List ByteArray) (n : ByteArray) : cntF (l ++ [n]) = upd (cntF l) n (cntF l n + 1) := by
  funext s
  unfold cntF upd
  rw [List.filter_append, List.length_append]
  by_cases e : s = n
  · subst e; rw [if_pos rfl]; simp
  · rw [if_neg e]; simp [List.filter_cons, show ¬ n = s from fun h => e h.symm]
theorem cntF_bd (l : List ByteArray) (s : ByteArray) : 0 ≤ cntF l s ∧ cntF l s ≤ (l.length : Int) := by
  unfold cntF
  have := List.length_filter_le (fun t => decide (t = s)) l
  omega
theorem cntF_pos (l : List ByteArray) (s : ByteArray) : cntF l s > 0 ↔ s ∈ l := by
  unfold cntF
  constructor
  · intro h
    have h2 : 0 < (l.filter (fun t => decide (t = s))).length := by omega
    obtain ⟨x, hx⟩ := List.exists_mem_of_length_pos h2
    have := List.mem_filter.1 hx
    have h3 : x = s := of_decide_eq_true this.2
    exact h3 ▸ this.1
  · intro h
    have : 0 < (l.filter (fun t => decide (t = s))).length := List.length_pos_of_mem (List.mem_filter.2 ⟨h, decide_eq_true rfl⟩)
    omega
/-- The names that rejects and follows are of. -/
def heldL (d : Df) : List ByteArray := d.rejects.map Rj.sort ++ d.follows.map Fl.sort
def held1 (d : Df) (k : Nat) : List ByteArray := (d.rejects.take k).map Rj.sort
def held2 (d : Df) (k : Nat) : List ByteArray := d.rejects.map Rj.sort ++ (d.follows.take k).map Fl.sort
theorem held1_snoc (d : Df) (k : Nat) (h : k < d.rejects.length) : held1 d (k + 1) = held1 d k ++ [d.rejects[k].sort] := by
  unfold held1; rw [take_snoc _ _ h, List.map_append]; simp
theorem held2_snoc (d : Df) (k : Nat) (h : k < d.follows.length) : held2 d (k + 1) = held2 d k ++ [d.follows[k].sort] := by
  unfold held2; rw [take_snoc _ _ h, List.map_append, List.append_assoc]; simp
theorem held1_end (d : Df) (k : Nat) (h : d.rejects.length ≤ k) : held1 d k = held2 d 0 := by
  unfold held1 held2; rw [List.take_of_length_le h]; simp
theorem held2_end (d : Df) (k : Nat) (h : d.follows.length ≤ k) : held2 d k = heldL d := by
  unfold held2 heldL; rw [List.take_of_length_le h]
theorem held1_le (d : Df) (k : Nat) (h : d.rejects.length + d.follows.length ≤ 100000) : (held1 d k).length ≤ 100000 := by
  unfold held1; rw [List.length_map, List.length_take]; omega
theorem held2_le (d : Df) (k : Nat) (h : d.rejects.length + d.follows.length ≤ 100000) : (held2 d k).length ≤ 100000 := by
  unfold held2; rw [List.length_append, List.length_map, List.length_map, List.length_take]; omega
/-- A reject is bad, seen by itself. -/
def rej0 (d : Df) (r : Rj) : Bool := !isLex d.prods r.sort true || !isLex d.prods r.by_ true || decide (r.sort = r.by_) || inB r.by_ (heldL d)
def rejA (d : Df) (r : Rj) (j : Nat) : Bool := rej0 d r || (d.rejects.take j).any (fun x => decide (x.sort = r.sort))
theorem rejA_snoc (d : Df) (r : Rj) (j : Nat) (h : j < d.rejects.length) : rejA d r (j + 1) = (rejA d r j || decide (d.rejects[j].sort = r.sort)) := by
  unfold rejA; rw [take_snoc _ _ h, List.any_append, Bool.or_assoc]; simp
theorem rejA_zero (d : Df) (r : Rj) : rejA d r 0 = rej0 d r := by unfold rejA; simp
open Classical in
noncomputable def rejHit (d : Df) (k : Nat) (r : Rj) : Bool := rejA d r k || decide (∃ s, Reach d.prods namesL r.by_ s ∧ s ∈ heldL d)
open Classical in
theorem rejHit_iff (d : Df) (k : Nat) (r : Rj) : rejHit d k r = true ↔ rejA d r k = true ∨ ∃ s, Reach d.prods namesL r.by_ s ∧ s ∈ heldL d := by
  unfold rejHit; rw [Bool.or_eq_true, decide_eq_true_iff]
noncomputable def rejectL (d : Df) : Int × ByteArray := firstI 49 (rejHit d) Rj.sort d.rejects 0
set_option maxHeartbeats 1600000 in
set_option maxRecDepth 100000 in
theorem reject_any (d : Df) (a2 : Option Addr) (c2 : Nat) (a3 : Option Addr) (c3 : Nat) (a4 : Option Addr) (c4 : Nat) (a5 : Option Addr) (c5 : Nat) (a6 : Option Addr) (c6 : Nat) (as_ : Option Addr) (cs m n : Nat) (bb : Nat) (w : World) (hbk : Book d a2 c2 a3 c3 a4 c4 a5 c5 a6 c6 as_ cs m n bb w) (hln : d.prods.length ≤ 100000) (hall : (d.prods.flatMap namesL).length ≤ 99999) (hsl : ∀ p ∈ d.prods, p.syms.length ≤ 100000) (hrl : d.rejects.length + d.follows.length ≤ 100000) : Calls Try.prog 46 #[.pointer (some ⟨bb, 0, none⟩)] w fun e w' => e = .returned (.tuple #[.int .i64 ((rejectL d).1), .string ((rejectL d).2)]) ∧ Below w.heap.size w w' := by
  have hmm := @run_makeMap Try.prog
  have bk0 := hbk.bk.cell 0
  have bk1 := hbk.bk.cell 1
  have bk2 := hbk.bk.cell 2
  have bk3 := hbk.bk.cell 3
  have bk4 := hbk.bk.cell 4
  have bk5 := hbk.bk.cell 5
  have bk6 := hbk.bk.cell 6
  have bk7 := hbk.bk.cell 7
  have bk8 := hbk.bk.cell 8
  have bkl := hbk.bk.lt
  have HBK := hide hbk
  clear hbk
  have HSL := hide hsl
  have HLN := hide hln
  have HALL := hide hall
  have HRL := hide hrl
  have hlr : d.rejects.length ≤ 100000 := by omega
  have hlf : d.follows.length ≤ 100000 := by omega
  have HLR := hide hlr
  obtain ⟨res, hres⟩ : ∃ r, rejectL d = r := ⟨_, rfl⟩
  have HRES := hide hres
  rw [hres]
  have HM0 := hide (MapF.made w)
  have HB1 := hide ((Below.refl w.heap.size w).alloc (Nat.le_refl _) (.map #[] 0))
  clear hres hsl hln hall hrl
  go_enter Try.func46, Try.ntmps46
  go_wp2_with fail
  clear bk0 bk1 bk2 bk3 bk4 bk5 bk6 bk7 bk8 bkl
  obtain ⟨mb, hmb⟩ : ∃ mb, w.heap.size = mb := ⟨_, rfl⟩
  obtain ⟨w1, hw1⟩ : ∃ w1, w.alloc (.map #[] 0) = w1 := ⟨_, rfl⟩
  rw [hmb, hw1] at HM0
  rw [hw1] at HB1
  rw [hw1, hmb]
  have HMB := hide (show w.heap.size ≤ mb by omega)
  clear hmb hw1
  go_loopg [22] d.rejects.length (fun u v22 wr => ∃ k : Nat, Hid (u = d.rejects.length - k) ∧ v22 = .int .i64 (k : Int) ∧ Hid (k ≤ d.rejects.length ∧ Below w.heap.size w wr ∧ MapF wr mb k (cntF (held1 d k))))
  case atStart => exact ⟨0, hide rfl, rfl, hide ⟨Nat.zero_le _, HB1.out, by rw [show held1 d 0 = [] from rfl, cntF_nil]; exact HM0.out⟩⟩
  case round =>
    obtain ⟨k, hu, rfl, hh⟩ := hrel
    have hkl := hh.out.1
    by_cases hlt : k < d.rejects.length
    · have hlti : (k : Int) < (d.rejects.length : Int) := by omega
      obtain ⟨b, o, rfl, hb, hat⟩ := HBK.out.rd.j.get hlt
      have hx := hat k hlt
      have HMS := hide (held1_snoc d k hlt)
      generalize d.rejects[k] = x at hx HMS
      clear hat
      obtain ⟨so, by_⟩ := x
      have HSH := hide (show short so from hx.1.n)
      obtain ⟨e0, e1⟩ := hx.cells
      replace e0 := (hh.out.2.1.cell (p := ⟨b, o + k * 2, none⟩) hb).trans e0
      replace e1 := (hh.out.2.1.cell (p := ⟨b, o + k * 2 + 1, none⟩) hb).trans e1
      have hb2 : b < wr.heap.size := Nat.lt_of_lt_of_le hb hh.out.2.1.size
      have hki : k ≤ 100000 := by omega
      have hk6 : k < 1000000 := by omega
      have HM := hide hh.out.2.2
      have HBW := hide hh.out.2.1
      clear hx hh
      go_upto_region 5 with fail
      obtain ⟨w6, h6⟩ : ∃ w6, wr.alloc (.cells #[.string so, .string by_] 50) = w6 := ⟨_, rfl⟩
      obtain ⟨kx, hkx⟩ : ∃ kx, wr.heap.size = kx := ⟨_, rfl⟩
      have HB6 := hide (show Below w.heap.size w w6 by rw [← h6]; exact HBW.out.alloc HBW.out.size _)
      have HX6 := hide (show Blk w6 kx #[.string so, .string by_] 50 by rw [← h6, ← hkx]; exact Blk.new wr _ _)
      have HM6 := hide (show MapF w6 mb k (cntF (held1 d k)) by rw [← h6]; exact HM.out.below ((Below.refl _ _).alloc (Nat.le_refl _) _))
      rw [h6, hkx]
      clear h6 hkx e0 e1 hb hb2
      have x0 := HX6.out.cell 0
      have xl := HX6.out.lt
      have hlk := HM6.out.look so HSH.out
      obtain ⟨c, hc⟩ : ∃ c, cntF (held1 d k) so = c := ⟨_, rfl⟩
      have hcb := cntF_bd (held1 d k) so
      have hcl := held1_le d k HRL.out
      rw [hc] at hlk hcb
      have HCV := hide hc
      clear hc
      go_wp2_with (at_mapUpdate; refine wpList_update rfl _ _ _ rfl mb k (cntF (held1 d k)) rfl HM6.out hk6 so HSH.out (c + 1) (by omega) (by unfold i64; omega) rfl rfl ?_; intro w8 hm8 hg8; have HM8 := hide hm8; have HG8 := hide hg8; clear hm8 hg8 hlk x0 xl)
      go_roundg (d.rejects.length - (k + 1))
      case measure => rw [hu.out]; omega
      case rel => exact ⟨k + 1, hide rfl, by go_num, hide ⟨hlt, HB6.out.grown HG8.out HB6.out.size (fun g e => by injection e with e; rw [← e]; exact HMB.out), by rw [HMS.out, cntF_snoc, HCV.out]; exact HM8.out⟩⟩
    · have hlti : ¬ (k : Int) < (d.rejects.length : Int) := by omega
      have HB2 := hide hh.out.2.1
      have HM2 := hide (show MapF wr mb d.rejects.length (cntF (held2 d 0)) by rw [← held1_end d k (by omega), show d.rejects.length = k by omega]; exact hh.out.2.2)
      clear hu hh
      obtain ⟨wo, rfl⟩ : ∃ wo : World, wo = wr := ⟨_, rfl⟩
      have bk0 := (HBK.out.below HB2.out).bk.cell 0
      have bk1 := (HBK.out.below HB2.out).bk.cell 1
      have bk2 := (HBK.out.below HB2.out).bk.cell 2
      have bk3 := (HBK.out.below HB2.out).bk.cell 3
      have bk4 := (HBK.out.below HB2.out).bk.cell 4
      have bkl := (HBK.out.below HB2.out).bk.lt
      go_wp2_with fail
      clear bk0 bk1 bk2 bk3 bk4 bkl
      go_loopg [38] d.follows.length (fun u v38 wr => ∃ k : Nat, Hid (u = d.follows.length - k) ∧ v38 = .int .i64 (k : Int) ∧ Hid (k ≤ d.follows.length ∧ Below w.heap.size w wr ∧ MapF wr mb (d.rejects.length + k) (cntF (held2 d k))))
      case atStart => exact ⟨0, hide rfl, rfl, hide ⟨Nat.zero_le _, HB2.out, HM2.out⟩⟩
      case round =>
        obtain ⟨k, hu, rfl, hh⟩ := hrel
        have hkl := hh.out.1
        by_cases hlt : k < d.follows.length
        · have hlti : (k : Int) < (d.follows.length : Int) := by omega
          obtain ⟨b, o, rfl, hb, hat⟩ := HBK.out.rd.f.get hlt
          have hx := hat k hlt
          have HMS := hide (held2_snoc d k hlt)
          generalize d.follows[k] = x at hx HMS
          clear hat
          obtain ⟨so, ⟨s0, s1, s2, s3⟩⟩ := x
          have HSH := hide (show short so from hx.1.n)
          obtain ⟨e0, e1, e2, e3, e4⟩ := hx.cells
          replace e0 := (hh.out.2.1.cell (p := ⟨b, o + k * 5, none⟩) hb).trans e0
          replace e1 := (hh.out.2.1.cell (p := ⟨b, o + k * 5 + 1, none⟩) hb).trans e1
          replace e2 := (hh.out.2.1.cell (p := ⟨b, o + k * 5 + 2, none⟩) hb).trans e2
          replace e3 := (hh.out.2.1.cell (p := ⟨b, o + k * 5 + 3, none⟩) hb).trans e3
          replace e4 := (hh.out.2.1.cell (p := ⟨b, o + k * 5 + 4, none⟩) hb).trans e4
          have hb2 : b < wr.heap.size := Nat.lt_of_lt_of_le hb hh.out.2.1.size
          have hki : k ≤ 100000 := by omega
          have hk6 : d.rejects.length + k < 1000000 := by omega
          have HM := hide hh.out.2.2
          have HBW := hide hh.out.2.1
          clear hx hh
          go_upto_region 10 with fail
          obtain ⟨w6, h6⟩ : ∃ w6, wr.alloc (.cells #[.string so, .int .u64 (s0 : Int), .int .u64 (s1 : Int), .int .u64 (s2 : Int), .int .u64 (s3 : Int)] 48) = w6 := ⟨_, rfl⟩
          obtain ⟨kx, hkx⟩ : ∃ kx, wr.heap.size = kx := ⟨_, rfl⟩
          have HB6 := hide (show Below w.heap.size w w6 by rw [← h6]; exact HBW.out.alloc HBW.out.size _)
          have HX6 := hide (show Blk w6 kx #[.string so, .int .u64 (s0 : Int), .int .u64 (s1 : Int), .int .u64 (s2 : Int), .int .u64 (s3 : Int)] 48 by rw [← h6, ← hkx]; exact Blk.new wr _ _)
          have HM6 := hide (show MapF w6 mb (d.rejects.length + k) (cntF (held2 d k)) by rw [← h6]; exact HM.out.below ((Below.refl _ _).alloc (Nat.le_refl _) _))
          rw [h6, hkx]
          clear h6 hkx e0 e1 e2 e3 e4 hb hb2
          have x0 := HX6.out.cell 0
          have xl := HX6.out.lt
          have hlk := HM6.out.look so HSH.out
          obtain ⟨c, hc⟩ : ∃ c, cntF (held2 d k) so = c := ⟨_, rfl⟩
          have hcb := cntF_bd (held2 d k) so
          have hcl := held2_le d k HRL.out
          rw [hc] at hlk hcb
          have HCV := hide hc
          clear hc
          go_wp2_with (at_mapUpdate; refine wpList_update rfl _ _ _ rfl mb (d.rejects.length + k) (cntF (held2 d k)) rfl HM6.out hk6 so HSH.out (c + 1) (by omega) (by unfold i64; omega) rfl rfl ?_; intro w8 hm8 hg8; have HM8 := hide hm8; have HG8 := hide hg8; clear hm8 hg8 hlk x0 xl)
          go_roundg (d.follows.length - (k + 1))
          case measure => rw [hu.out]; omega
          case rel => exact ⟨k + 1, hide rfl, by go_num, hide ⟨hlt, HB6.out.grown HG8.out HB6.out.size (fun g e => by injection e with e; rw [← e]; exact HMB.out), by rw [HMS.out, cntF_snoc, HCV.out]; exact HM8.out⟩⟩
        · have hlti : ¬ (k : Int) < (d.follows.length : Int) := by omega
          have HB3 := hide hh.out.2.1
          have HM3 := hide (show MapF wr mb (d.rejects.length + d.follows.length) (cntF (heldL d)) by rw [← held2_end d k (by omega), show d.follows.length = k by omega]; exact hh.out.2.2)
          clear hu hh HM2 HB2
          obtain ⟨wp, rfl⟩ : ∃ wp : World, wp = wr := ⟨_, rfl⟩
          have HBK3 := hide (HBK.out.below HB3.out)
          have bk0 := HBK3.out.bk.cell 0
          have bk1 := HBK3.out.bk.cell 1
          have bk2 := HBK3.out.bk.cell 2
          have bk3 := HBK3.out.bk.cell 3
          have bk4 := HBK3.out.bk.cell 4
          have bk5 := HBK3.out.bk.cell 5
          have bkl := HBK3.out.bk.lt
          go_wp2_with fail
          clear bk0 bk1 bk2 bk3 bk4 bk5 bkl
          go_loopg [54] d.rejects.length (fun u v54 wr => ∃ k : Nat, Hid (u = d.rejects.length - k) ∧ v54 = .int .i64 (k : Int) ∧ Hid (k ≤ d.rejects.length ∧ Below wp.heap.size wp wr ∧ ∀ j (h : j < d.rejects.length), j < k → rejHit d (0 + j) d.rejects[j] = false))
          case atStart => exact ⟨0, hide rfl, rfl, hide ⟨Nat.zero_le _, Below.refl _ _, fun j _ h => by omega⟩⟩
          case round =>
            obtain ⟨k, hu, rfl, hh⟩ := hrel
            have hkl := hh.out.1
            by_cases hlt : k < d.rejects.length
            · have hlti : (k : Int) < (d.rejects.length : Int) := by omega
              obtain ⟨b, o, rfl, hb, hat⟩ := (HBK3.out.below hh.out.2.1).rd.j.get hlt
              have hx := hat k hlt
              have HNX := hide (fun (h : rejHit d k d.rejects[k] = false) => none_nextI (f := rejHit d) (l := d.rejects) (k := k) hh.out.2.2 (fun _ => rfl) h)
              have HHI := hide (fun (h : rejHit d k d.rejects[k] = true) => firstI_hit 49 (rejHit d) Rj.sort d.rejects 0 k hlt hh.out.2.2 (by rw [Nat.zero_add]; exact h))
              generalize d.rejects[k] = x at hx HNX HHI
              clear hat
              obtain ⟨so, by_⟩ := x
              have HSH := hide (show short so from hx.1.n)
              have HSB := hide (show short by_ from hx.1.b)
              obtain ⟨e0, e1⟩ := hx.cells
              have HBW := hide hh.out.2.1
              clear hx hh
              go_upto_region 15 with fail
              obtain ⟨w6, h6⟩ : ∃ w6, wr.alloc (.cells #[.string so, .string by_] 50) = w6 := ⟨_, rfl⟩
              obtain ⟨kx, hkx⟩ : ∃ kx, wr.heap.size = kx := ⟨_, rfl⟩
              have HB6 := hide (show Below wp.heap.size wp w6 by rw [← h6]; exact HBW.out.alloc HBW.out.size _)
              have HX6 := hide (show Blk w6 kx #[.string so, .string by_] 50 by rw [← h6, ← hkx]; exact Blk.new wr _ _)
              rw [h6, hkx]
              clear h6 hkx e0 e1 hb
              go_cut [11] from 59 to 84 (fun v11 wc => v11 = .bool (rej0 d ⟨so, by_⟩) ∧ w6 = wc)
              case first =>
                have hbk6 := HBK3.out.below HB6.out
                have HC := hide (fun s l (hs : short s) (hl : isLex d.prods s true = l) => show Calls Try.prog 63 #[.pointer (some ⟨bb, 0, none⟩), .string s] w6 fun e w' => e = .returned (.bool l) ∧ w6 = w' from hl ▸ lexical_any d _ _ _ _ _ _ _ _ _ _ _ _ _ _ bb s w6 hbk6 hs)
                have hlk := (HM3.out.below HB6.out).look by_ HSB.out
                have x0 := HX6.out.cell 0
                have x1 := HX6.out.cell 1
                have xl := HX6.out.lt
                clear hbk6
                obtain ⟨l1, h1⟩ : ∃ b, isLex d.prods so true = b := ⟨_, rfl⟩
                have H1 := hide h1
                clear h1
                obtain ⟨l2, h2⟩ : ∃ b, isLex d.prods by_ true = b := ⟨_, rfl⟩
                have H2 := hide h2
                clear h2
                obtain ⟨c, hc⟩ : ∃ c, cntF (heldL d) by_ = c := ⟨_, rfl⟩
                rw [hc] at hlk
                have HCV := hide (show c > 0 ↔ inB by_ (heldL d) = true by rw [← hc, cntF_pos, inB_iff])
                clear hc
                cases l1 with
                | false =>
                  have HO := hide (show rej0 d ⟨so, by_⟩ = true by unfold rej0; simp [H1.out])
                  go_wp2_with (go_at_call 63; refine (HC.out so _ HSH.out H1.out).mono ?_; rintro e w7 ⟨rfl, rfl⟩)
                  go_meet
                  exact ⟨by rw [HO.out], rfl⟩
                | true =>
                  cases l2 with
                  | false =>
                    have HO := hide (show rej0 d ⟨so, by_⟩ = true by unfold rej0; simp [H2.out])
                    go_wp2_with (go_at_call 63; refine (HC.out _ _ (by first | with_reducible exact HSH.out | with_reducible exact HSB.out) (by first | with_reducible exact H1.out | with_reducible exact H2.out)).mono ?_; rintro e w7 ⟨rfl, rfl⟩)
                    go_meet
                    exact ⟨by rw [HO.out], rfl⟩
                  | true =>
                    by_cases he : so = by_
                    · have hel : (so.toList == by_.toList) = true := by rw [he]; simp
                      have HO := hide (show rej0 d ⟨so, by_⟩ = true by unfold rej0; simp [he])
                      clear he
                      go_wp2_with (go_at_call 63; refine (HC.out _ _ (by first | with_reducible exact HSH.out | with_reducible exact HSB.out) (by first | with_reducible exact H1.out | with_reducible exact H2.out)).mono ?_; rintro e w7 ⟨rfl, rfl⟩)
                      go_meet
                      exact ⟨by rw [HO.out], rfl⟩
                    · have hel : (so.toList == by_.toList) = false := beq_eq_false_iff_ne.2 (fun h => he ((toList_eq_iff _ _).1 h))
                      have HNE := hide he
                      clear he
                      by_cases hp : c > 0
                      · have HO := hide (show rej0 d ⟨so, by_⟩ = true by unfold rej0; simp [HCV.out.1 hp])
                        have hpd : decide (c > 0) = true := decide_eq_true hp
                        go_wp2_with (go_at_call 63; refine (HC.out _ _ (by first | with_reducible exact HSH.out | with_reducible exact HSB.out) (by first | with_reducible exact H1.out | with_reducible exact H2.out)).mono ?_; rintro e w7 ⟨rfl, rfl⟩)
                        go_meet
                        exact ⟨by rw [HO.out], rfl⟩
                      · have HO := hide (show rej0 d ⟨so, by_⟩ = false by
                          have : inB by_ (heldL d) = false := by
                            cases h : inB by_ (heldL d)
                            · rfl
                            · exact absurd (HCV.out.2 h) hp
                          unfold rej0; simp [H1.out, H2.out, HNE.out, this])
                        have hpd : decide (c > 0) = false := decide_eq_false hp
                        go_wp2_with (go_at_call 63; refine (HC.out _ _ (by first | with_reducible exact HSH.out | with_reducible exact HSB.out) (by first | with_reducible exact H1.out | with_reducible exact H2.out)).mono ?_; rintro e w7 ⟨rfl, rfl⟩)
                        go_meet
                        exact ⟨by rw [HO.out], rfl⟩
              case rest =>
                obtain ⟨rfl, rfl⟩ := hcut
                obtain ⟨b0, hb0⟩ : ∃ v, rej0 d ⟨so, by_⟩ = v := ⟨_, rfl⟩
                have HB0 := hide hb0
                rw [hb0]
                clear hb0
                have bk5 := (HBK3.out.below HB6.out).bk.cell 5
                have bkl := (HBK3.out.below HB6.out).bk.lt
                have hkc : (k : Int) ≤ (c5 : Int) := by have := HBK3.out.rd.q; simp only at this; omega
                go_wp2_with fail
                clear bk5 bkl
                go_loopg [11, 93] k (fun u v11 v93 wr => ∃ j : Nat, Hid (u = k - j) ∧ v93 = .int .i64 (j : Int) ∧ v11 = .bool (rejA d ⟨so, by_⟩ j) ∧ Hid (j ≤ k ∧ Below w6.heap.size w6 wr))
                case atStart => exact ⟨0, hide rfl, rfl, by rw [rejA_zero, HB0.out], hide ⟨Nat.zero_le _, Below.refl _ _⟩⟩
                case round =>
                  obtain ⟨j, hv, rfl, rfl, hq⟩ := hrel
                  have hjl := hq.out.1
                  by_cases hltj : j < k
                  · have hltji : (j : Int) < (k : Int) := by omega
                    have hjr : j < d.rejects.length := by omega
                    obtain ⟨b3, o3, ebo, hb3, hat⟩ := (HBK3.out.below (below_next HB6.out hq.out.2)).rd.j.get hjr
                    injection ebo with ebo
                    injection ebo with eb eo
                    subst eb eo
                    have hx := hat j hjr
                    have HSN := hide (rejA_snoc d ⟨so, by_⟩ j hjr)
                    generalize d.rejects[j] = x at hx HSN
                    clear hat
                    obtain ⟨xs, xb⟩ := x
                    obtain ⟨e0, e1⟩ := hx.cells
                    clear hx
                    have x0 := (HX6.out.below hq.out.2).cell 0
                    have xl := (HX6.out.below hq.out.2).lt
                    obtain ⟨v, hvv⟩ : ∃ v, rejA d ⟨so, by_⟩ j = v := ⟨_, rfl⟩
                    rw [hvv] at HSN ⊢
                    clear hvv
                    have HQB := hide (hq.out.2.alloc hq.out.2.size (.cells #[.string xs, .string xb] 50))
                    cases v with
                    | true =>
                      go_wp2_with fail
                      go_roundg (k - (j + 1))
                      case measure => rw [hv.out]; omega
                      case rel => exact ⟨j + 1, hide rfl, by go_num, by rw [HSN.out]; rfl, hide ⟨hltj, HQB.out⟩⟩
                    | false =>
                      by_cases he : xs = so
                      · have hel : (xs.toList == so.toList) = true := by rw [he]; simp
                        have HSE := hide (show rejA d ⟨so, by_⟩ (j + 1) = true by rw [HSN.out]; simp [he])
                        clear he
                        go_wp2_with fail
                        go_roundg (k - (j + 1))
                        case measure => rw [hv.out]; omega
                        case rel => exact ⟨j + 1, hide rfl, by go_num, by rw [HSE.out], hide ⟨hltj, HQB.out⟩⟩
                      · have hel : (xs.toList == so.toList) = false := beq_eq_false_iff_ne.2 (fun h => he ((toList_eq_iff _ _).1 h))
                        have HSE := hide (show rejA d ⟨so, by_⟩ (j + 1) = false by rw [HSN.out]; simp [he])
                        clear he
                        go_wp2_with fail
                        go_roundg (k - (j + 1))
                        case measure => rw [hv.out]; omega
                        case rel => exact ⟨j + 1, hide rfl, by go_num, by rw [HSE.out], hide ⟨hltj, HQB.out⟩⟩
                  · have hltji : ¬ (j : Int) < (k : Int) := by omega
                    have hjk : j = k := by omega
                    subst hjk
                    have HB8 := hide (below_next HB6.out hq.out.2)
                    have HX8 := hide (HX6.out.below hq.out.2)
                    clear hq hv
                    obtain ⟨w8, rfl⟩ : ∃ w8 : World, w8 = wr := ⟨_, rfl⟩
                    obtain ⟨ba, hba⟩ : ∃ v, rejA d ⟨so, by_⟩ j = v := ⟨_, rfl⟩
                    have HBA := hide hba
                    rw [hba]
                    clear hba
                    have HBK8 := hide (HBK3.out.below HB8.out)
                    have HRC := hide (reach_at d _ _ _ _ _ _ _ _ _ _ _ _ _ _ bb by_ 60 namesL (by intro args w; exact enters_of Try.func60 (by kernel_rfl) rfl args w) w8 HBK8.out HSB.out HALL.out HLN.out (fun W p ap cp hp hr => names_at p ap cp W hr (HSL.out p hp)))
                    have x1 := HX8.out.cell 1
                    have xl := HX8.out.lt
                    go_wp2_with (first
                      | (go_at_call 59; refine HRC.out.mono ?_; rintro e w9 ⟨mb9, n9, met, rfl, hq9⟩; have HQ9 := hide hq9.out; clear hq9 x1 xl; obtain ⟨D, hown, hold⟩ := HQ9.out.1; have HOWN := hide hown; have HOLD := hide hold; clear hown hold)
                      | (at_range; refine wpList_range_own _ rfl _ 85 rfl 9 3 K9 Try.underlying85 (plainElem Try.prog 3) mb9 n9 D rfl HOWN.out ?_; intro w10 hrg hg hs; have HRG := hide hrg; have HG := hide hg; have HSZ := hide hs; clear hrg hg hs))
                    go_frame
                    have HB9 := hide (below_next HB8.out HQ9.out.2.2.2.2.2)
                    have HX9 := hide (HX8.out.below HQ9.out.2.2.2.2.2)
                    have HM9 := hide (HM3.out.below HB9.out)
                    have HMET := hide HQ9.out.2.1
                    clear HQ9
                    obtain ⟨rr, hrr⟩ : ∃ r, w9.heap.size = r := ⟨_, rfl⟩
                    rw [hrr] at HRG ⊢
                    have HRR := hide hrr
                    clear hrr
                    have HB10 := hide ((Below.refl w9.heap.size w9).grown HG.out (Nat.le_refl _) (fun g e => by cases e))
                    go_loopg [11] (Maps.size D) (fun u v11 wr => ∃ left bv, v11 = .bool bv ∧ Hid (wr.ranges Try.prog 9 (plainElem Try.prog 3) mb9 rr n9 D left u ∧ Below w9.heap.size w9 wr ∧ (∀ kl, left kl = true → Maps.has D kl = true) ∧ (bv = true ↔ ba = true ∨ ∃ s, s ∈ met ∧ left (.string s.data.toList) = false ∧ s ∈ heldL d)))
                    case atStart => exact ⟨_, ba, rfl, hide ⟨HRG.out, HB10.out, fun _ h => h, ⟨Or.inl, fun h => h.elim id (fun ⟨s, hs1, hs2, _⟩ => by
                      have h1 := HOLD.out.not s hs2
                      unfold metF at h1
                      rw [if_pos ((inB_iff s met).2 hs1)] at h1
                      cases h1)⟩⟩⟩
                    case round =>
                      obtain ⟨left, bv, rfl, hh⟩ := hrel
                      have HR := hide hh.out.1
                      have HB := hide hh.out.2.1
                      have HLE := hide hh.out.2.2.1
                      have HV := hide hh.out.2.2.2
                      clear hh
                      go_wp2_with (first
                        | (at_next; refine wpList_next_ranges _ rfl _ rfl 9 K9 (plainElem Try.prog 3) Value.string (Value.int .i64) (fun key kl h => keyOf_str_inv h) (fun v y h => by obtain ⟨c, rfl, _⟩ := plainElem_int_inv Try.underlying3 h; exact ⟨c, rfl⟩) mb9 rr n9 D left _ rfl HR.out ?_ ?_)
                        | go_in)
                      · intro hc0 hl0
                        have HHIT := hide (show rejHit d j ⟨so, by_⟩ = bv by
                          rw [Bool.eq_iff_iff, rejHit_iff, HBA.out, HV.out]
                          constructor
                          · rintro (h | ⟨s, h1, h2⟩)
                            · exact Or.inl h
                            · exact Or.inr ⟨s, (HMET.out s).2 h1, hl0 _, h2⟩
                          · rintro (h | ⟨s, h1, _, h2⟩)
                            · exact Or.inl h
                            · exact Or.inr ⟨s, (HMET.out s).1 h1, h2⟩)
                        clear hc0 hl0
                        have x0 := (HX9.out.below HB.out).cell 0
                        have xl := (HX9.out.below HB.out).lt
                        have hbq : ∀ n, Below w.heap.size w (wr.drewN n) := fun n => below_next HB3.out (below_next HB9.out (HB.out.trans ⟨rfl, rfl, rfl, Nat.le_refl _, fun _ _ => rfl⟩))
                        have HBQ := hide hbq
                        clear hbq
                        cases bv with
                        | true =>
                          have HF := hide (show res = (49, so) by rw [← HRES.out]; exact HHI.out HHIT.out)
                          go_upto_region 26 with fail
                          go_quiet (fail)
                          go_wp2_with fail
                          go_ret2
                          exact ⟨by rw [HF.out]; rfl, HBQ.out _⟩
                        | false =>
                          have HN := hide (HNX.out HHIT.out)
                          go_wp2_with fail
                          go_roundg (d.rejects.length - (j + 1))
                          case measure => rw [hu.out]; omega
                          case rel => exact ⟨j + 1, hide rfl, by go_num, hide ⟨hlt, below_next HB9.out HB.out, HN.out⟩⟩
                      · intro x c kl y ym w11 cnt1 hkey hlx hyv hat hrg1 hclt hg1 hs1 hen
                        have hkl2 := keyOf_str_lit hkey
                        subst hkl2
                        obtain ⟨t, hts, hte, htm⟩ := HOLD.out.has _ (HLE.out _ hlx)
                        have hxt : x = t := data_inj (by injection hte)
                        subst hxt
                        have HXM := hide (show x ∈ met by
                          by_cases h : inB x met = true
                          · exact (inB_iff _ _).1 h
                          · exfalso; apply htm; unfold metF; rw [if_neg h])
                        have HSX := hide hts
                        have HB11 := hide (HB.out.grown hg1 HB.out.size (fun g e => by injection e with e; rw [← e]; exact Nat.le_of_eq HRR.out))
                        have HR1 := hide hrg1
                        have hlk := (HM9.out.below HB11.out).look x hts
                        obtain ⟨c2, hc2⟩ : ∃ c, cntF (heldL d) x = c := ⟨_, rfl⟩
                        rw [hc2] at hlk
                        have HC2 := hide (show c2 > 0 ↔ x ∈ heldL d by rw [← hc2, cntF_pos])
                        have hstep : ∀ bv2 : Bool, (bv2 = true ↔ bv = true ∨ x ∈ heldL d) → (bv2 = true ↔ ba = true ∨ ∃ s, s ∈ met ∧ (fun z => left z && !z.sameKey (.string x.data.toList)) (.string s.data.toList) = false ∧ s ∈ heldL d) := fun bv2 h2 => by
                          rw [h2, HV.out]
                          constructor
                          · rintro ((h | ⟨s, h1, h3, h4⟩) | h)
                            · exact Or.inl h
                            · exact Or.inr ⟨s, h1, by simp only [h3]; rfl, h4⟩
                            · exact Or.inr ⟨x, HXM.out, by simp [Lit.sameKey], h⟩
                          · rintro (h | ⟨s, h1, h3, h4⟩)
                            · exact Or.inl (Or.inl h)
                            · by_cases e : s = x
                              · exact Or.inr (e ▸ h4)
                              · refine Or.inl (Or.inr ⟨s, h1, ?_, h4⟩)
                                have hne := str_inj e
                                simp only [Bool.and_eq_false_iff] at h3
                                rcases h3 with h3 | h3
                                · exact h3
                                · exfalso
                                  simp [Lit.sameKey] at h3
                                  exact e (data_inj (by simpa using h3))
                        have HST := hide hstep
                        have HLT := hide hclt
                        have HLE1 := hide (fun kl (h : (fun z => left z && !z.sameKey (.string x.data.toList)) kl = true) => HLE.out kl (by have : (left kl && !kl.sameKey (.string x.data.toList)) = true := h; rw [Bool.and_eq_true] at this; exact this.1))
                        clear hc2 hstep hkey hlx hyv hat hrg1 hclt hg1 hs1 hts hte htm
                        cases bv with
                        | true =>
                          go_wp2_with fail
                          go_roundg cnt1
                          case measure => exact HLT.out
                          case rel => exact ⟨_, true, rfl, hide ⟨HR1.out, HB11.out, HLE1.out, HST.out true (by simp)⟩⟩
                        | false =>
                          by_cases hp : c2 > 0
                          · have hpd : decide (c2 > 0) = true := decide_eq_true hp
                            go_wp2_with fail
                            go_roundg cnt1
                            case measure => exact HLT.out
                            case rel => exact ⟨_, true, rfl, hide ⟨HR1.out, HB11.out, HLE1.out, HST.out true ⟨fun _ => Or.inr (HC2.out.1 hp), fun _ => rfl⟩⟩⟩
                          · have hpd : decide (c2 > 0) = false := decide_eq_false hp
                            go_wp2_with fail
                            go_roundg cnt1
                            case measure => exact HLT.out
                            case rel => exact ⟨_, false, rfl, hide ⟨HR1.out, HB11.out, HLE1.out, HST.out false ⟨fun h => absurd h (by decide), fun h => h.elim (fun h => absurd h (by decide)) (fun h => by have := HC2.out.2 h; omega)⟩⟩⟩
            · have hlti : ¬ (k : Int) < (d.rejects.length : Int) := by omega
              have HF := hide (show res = okL by rw [← HRES.out]; exact firstI_miss 49 (rejHit d) Rj.sort d.rejects 0 (fun j h => hh.out.2.2 j h (by omega)))
              go_wp2_with fail
              go_ret2
              exact ⟨by rw [HF.out]; rfl, below_next HB3.out hh.out.2.1⟩
end Go.Proofs.Ytalicfpcmcbdbaa

set_option linter.unusedVariables false
set_option linter.unusedSimpArgs false
set_option linter.unnecessarySimpa false
set_option linter.deprecated false
namespace Go.Proofs.Ytalicfpcmcbdbaa
open Go.RowKit

/-- A definition that the walks bear. -/
structure Small (d : Df) : Prop where
  pl : d.prods.length ≤ 99999
  sl : ∀ p ∈ d.prods, p.syms.length ≤ 10000
  ul : (usedL d).length ≤ 99000
  ct : ∀ ch ∈ d.chains, (chainN ch).length ≤ 99999
  bl : d.boxes.length ≤ 100000
theorem Small.pl5 {d : Df} (h : Small d) : d.prods.length ≤ 100000 := by have := h.pl; omega
theorem Small.sl5 {d : Df} (h : Small d) : ∀ p ∈ d.prods, p.syms.length ≤ 100000 := fun p hp => by have := h.sl p hp; omega
theorem Small.nl {d : Df} (h : Small d) : (d.prods.flatMap namesL).length ≤ 99999 := by
  have := h.ul
  unfold usedL at this
  simp only [List.length_append] at this
  omega
theorem rejN_len : ∀ l : List Rj, (l.flatMap rejN).length = 2 * l.length
  | [] => rfl
  | x :: l => by rw [List.flatMap_cons, List.length_append, rejN_len l]; simp [rejN]; omega
theorem Small.rl {d : Df} (h : Small d) : d.rejects.length + d.follows.length ≤ 100000 := by
  have := h.ul
  unfold usedL at this
  simp only [List.length_append, List.length_map, rejN_len] at this
  omega
theorem bareL_len (p : Pd) : (bareL p).length ≤ 1 := by
  unfold bareL
  split
  · split <;> simp
  · simp
theorem bareL_all : ∀ l : List Pd, (l.flatMap bareL).length ≤ l.length
  | [] => Nat.le_refl _
  | x :: l => by
    rw [List.flatMap_cons, List.length_append]
    have := bareL_all l
    have := bareL_len x
    simp only [List.length_cons]
    omega
theorem Small.al {d : Df} (h : Small d) : (d.prods.flatMap bareL).length ≤ 99999 := Nat.le_trans (bareL_all _) h.pl
noncomputable def checkL (d : Df) : Int × ByteArray := runC (looksL d (cycleL d) (rejectL d))
/-- What Check answers. -/
theorem Check_any (d : Df) (a2 : Option Addr) (c2 : Nat) (a3 : Option Addr) (c3 : Nat) (a4 : Option Addr) (c4 : Nat) (a5 : Option Addr) (c5 : Nat) (a6 : Option Addr) (c6 : Nat) (w : World) (hd : RD d ⟨a2, c2, a3, c3, a4, c4, a5, c5, a6, c6⟩ w) (hs : Small d) :
    Calls Try.prog 14 #[.agg #[.string d.start, .string d.layout, .slice a2 d.prods.length c2, .slice a3 d.chains.length c3, .slice a4 d.follows.length c4, .slice a5 d.rejects.length c5, .slice a6 d.boxes.length c6]] w fun e w' => e = .returned (.tuple #[.int .i64 (checkL d).1, .string (checkL d).2]) ∧ Below w.heap.size w w' := by
  refine check_at d a2 c2 a3 c3 a4 c4 a5 c5 a6 c6 (cycleL d) (rejectL d) w hd hs.pl5 ?_
  intro bb as_ cs m n f1 e1 f2 e2 f3 e3 f4 e4 W hbk k1 l1 k2 l2 k3 l3 k4 l4 x hx
  unfold lkL at hx
  simp only [List.mem_cons, List.not_mem_nil, or_false] at hx
  rcases hx with rfl | rfl | rfl | rfl | rfl | rfl | rfl | rfl | rfl | rfl | rfl | rfl | rfl | rfl
  · exact ⟨(by intro args w; exact enters_of Try.func35 (by kernel_rfl) rfl args w), fun W2 hb => form_any d _ _ _ _ _ _ _ _ _ _ _ _ _ _ bb W2 (hbk.below hb)⟩
  · exact ⟨(by intro args w; exact enters_of Try.func36 (by kernel_rfl) rfl args w), fun W2 hb => mixed_any d _ _ _ _ _ _ _ _ _ _ _ _ _ _ bb W2 (hbk.below hb)⟩
  · exact ⟨(by intro args w; exact enters_of Try.func37 (by kernel_rfl) rfl args w), fun W2 hb => ends_any d _ _ _ _ _ _ _ _ _ _ _ _ _ _ bb W2 (hbk.below hb)⟩
  · exact ⟨(by intro args w; exact enters_of Try.func38 (by kernel_rfl) rfl args w), fun W2 hb => undef_any d _ _ _ _ _ _ _ _ _ _ _ _ _ _ bb W2 (hbk.below hb) hs.ul hs.sl5⟩
  · exact ⟨(by intro args w; exact enters_of Try.func69 (by kernel_rfl) rfl args w), fun W2 hb => each1_at d _ _ _ _ _ _ _ _ _ _ _ _ _ _ bb f1 e1 40 44 (kindB d) (by intro args w; exact enters_of Try.func40 (by kernel_rfl) rfl args w) W2 (hbk.below hb) (k1.below hb) (l1.below hb) (fun W3 x ap cp hx hxo hb3 hr => kind_any d _ _ _ _ _ _ _ _ _ _ _ _ _ _ bb x ap cp W3 hb3 hr)⟩
  · exact ⟨(by intro args w; exact enters_of Try.func41 (by kernel_rfl) rfl args w), fun W2 hb => cons_any d _ _ _ _ _ _ _ _ _ _ _ _ _ _ bb W2 (hbk.below hb)⟩
  · exact ⟨(by intro args w; exact enters_of Try.func69 (by kernel_rfl) rfl args w), fun W2 hb => each1_at d _ _ _ _ _ _ _ _ _ _ _ _ _ _ bb f2 e2 42 46 (bracketB) (by intro args w; exact enters_of Try.func42 (by kernel_rfl) rfl args w) W2 (hbk.below hb) (k2.below hb) (l2.below hb) (fun W3 x ap cp hx hxo hb3 hr => bracket_any bb x ap cp W3 hr (hs.sl5 x hx))⟩
  · exact ⟨(by intro args w; exact enters_of Try.func69 (by kernel_rfl) rfl args w), fun W2 hb => each1_at d _ _ _ _ _ _ _ _ _ _ _ _ _ _ bb f3 e3 43 2 (longB d) (by intro args w; exact enters_of Try.func43 (by kernel_rfl) rfl args w) W2 (hbk.below hb) (k3.below hb) (l3.below hb) (fun W3 x ap cp hx hxo hb3 hr => long_any d _ _ _ _ _ _ _ _ _ _ _ _ _ _ bb x ap cp W3 hb3 hr (hs.sl x hx))⟩
  · exact ⟨(by intro args w; exact enters_of Try.func69 (by kernel_rfl) rfl args w), fun W2 hb => each1_at d _ _ _ _ _ _ _ _ _ _ _ _ _ _ bb f4 e4 44 47 (nullB) (by intro args w; exact enters_of Try.func44 (by kernel_rfl) rfl args w) W2 (hbk.below hb) (k4.below hb) (l4.below hb) (fun W3 x ap cp hx hxo hb3 hr => null_any bb x ap cp W3 hr)⟩
  · exact ⟨(by intro args w; exact enters_of Try.func45 (by kernel_rfl) rfl args w), fun W2 hb => cycle_any d _ _ _ _ _ _ _ _ _ _ _ _ _ _ bb W2 (hbk.below hb) hs.al hs.pl5 hs.sl5⟩
  · exact ⟨(by intro args w; exact enters_of Try.func46 (by kernel_rfl) rfl args w), fun W2 hb => reject_any d _ _ _ _ _ _ _ _ _ _ _ _ _ _ bb W2 (hbk.below hb) hs.pl5 hs.nl hs.sl5 hs.rl⟩
  · exact ⟨(by intro args w; exact enters_of Try.func47 (by kernel_rfl) rfl args w), fun W2 hb => prio_any d _ _ _ _ _ _ _ _ _ _ _ _ _ _ bb W2 (hbk.below hb) hs.ct⟩
  · exact ⟨(by intro args w; exact enters_of Try.func48 (by kernel_rfl) rfl args w), fun W2 hb => follow_any d _ _ _ _ _ _ _ _ _ _ _ _ _ _ bb W2 (hbk.below hb)⟩
  · exact ⟨(by intro args w; exact enters_of Try.func49 (by kernel_rfl) rfl args w), fun W2 hb => box_any d _ _ _ _ _ _ _ _ _ _ _ _ _ _ bb W2 (hbk.below hb) hs.sl5 hs.bl⟩
end Go.Proofs.Ytalicfpcmcbdbaa

set_option linter.unusedVariables false
set_option linter.unusedSimpArgs false
set_option linter.unnecessarySimpa false
set_option linter.deprecated false
namespace Go.Proofs.Ytalicfpcmcbdbaa
open Go.RowKit

theorem firstG_ok {α : Type} (c : Int) (hc : c ≠ 0) (p : α → Bool) (nm : α → ByteArray) : ∀ l : List α, (firstG c p nm l).1 = 0 ↔ ∀ x ∈ l, p x = false
  | [] => by simp [firstG, okL]
  | x :: r => by
    rw [firstG]
    by_cases h : p x = true
    · rw [if_pos h]
      exact ⟨fun e => absurd e hc, fun e => by have := e x (List.mem_cons_self ..); rw [h] at this; cases this⟩
    · rw [if_neg h, firstG_ok c hc p nm r]
      exact ⟨fun e y hy => (List.mem_cons.1 hy).elim (fun e2 => by rw [e2]; simpa using h) (e y), fun e y hy => e y (List.mem_cons_of_mem _ hy)⟩
theorem firstL_ok (c : Int) (hc : c ≠ 0) (p : ByteArray → Bool) : ∀ l : List ByteArray, (firstL c p l).1 = 0 ↔ ∀ x ∈ l, p x = false
  | [] => by simp [firstL, okL]
  | x :: r => by
    rw [firstL]
    by_cases h : p x = true
    · rw [if_pos h]
      exact ⟨fun e => absurd e hc, fun e => by have := e x (List.mem_cons_self ..); rw [h] at this; cases this⟩
    · rw [if_neg h, firstL_ok c hc p r]
      exact ⟨fun e y hy => (List.mem_cons.1 hy).elim (fun e2 => by rw [e2]; simpa using h) (e y), fun e y hy => e y (List.mem_cons_of_mem _ hy)⟩
theorem firstI_ok {α : Type} (c : Int) (hc : c ≠ 0) (p : Nat → α → Bool) (nm : α → ByteArray) : ∀ (l : List α) (s : Nat), (firstI c p nm l s).1 = 0 ↔ ∀ k (h : k < l.length), p (s + k) l[k] = false
  | [], s => by simp [firstI, okL]
  | x :: r, s => by
    rw [firstI]
    by_cases h : p s x = true
    · rw [if_pos h]
      exact ⟨fun e => absurd e hc, fun e => by have := e 0 (by simp); simp only [Nat.add_zero, List.getElem_cons_zero] at this; rw [h] at this; cases this⟩
    · rw [if_neg h, firstI_ok c hc p nm r (s + 1)]
      constructor
      · intro e k hk
        match k, hk with
        | 0, _ => simpa using h
        | k + 1, hk => have := e k (by simpa using hk); rw [show s + (k + 1) = s + 1 + k by omega]; simpa using this
      · intro e k hk
        have := e (k + 1) (by simpa using hk)
        rw [show s + (k + 1) = s + 1 + k by omega] at this
        simpa using this
theorem prioG_ok (f : List Gp → Option ByteArray) : ∀ l : List (List Gp), (prioG f l).1 = 0 ↔ ∀ x ∈ l, f x = none
  | [] => by simp [prioG, okL]
  | x :: r => by
    rw [prioG]
    cases h : f x with
    | some s => exact ⟨fun e => absurd (show (50 : Int) = 0 from e) (by decide), fun e => by have := e x (List.mem_cons_self ..); rw [h] at this; cases this⟩
    | none =>
      simp only
      rw [prioG_ok f r]
      exact ⟨fun e y hy => (List.mem_cons.1 hy).elim (fun e2 => by rw [e2]; exact h) (e y), fun e y hy => e y (List.mem_cons_of_mem _ hy)⟩
theorem runC_ok : ∀ l : List (Int × ByteArray), (runC l).1 = 0 ↔ ∀ x ∈ l, x.1 = 0
  | [] => by simp [runC, okL]
  | x :: r => by
    rw [runC]
    by_cases h : x.1 = 0
    · rw [if_pos h, runC_ok r]
      exact ⟨fun e y hy => (List.mem_cons.1 hy).elim (fun e2 => by rw [e2]; exact h) (e y), fun e y hy => e y (List.mem_cons_of_mem _ hy)⟩
    · rw [if_neg h]
      exact ⟨fun e => absurd e h, fun e => e x (List.mem_cons_self ..)⟩
/-- A definition is right. -/
structure OkD (d : Df) : Prop where
  form : rightDfB d = true
  mixed : ∀ s ∈ sortsL d.prods, lexOf d.prods s ≠ 3
  start : lexOf d.prods d.start = 2
  layout : emp d.layout = true ∨ lexOf d.prods d.layout = 1
  undef : ∀ s ∈ usedL d, lexOf d.prods s ≠ 0
  kind : ∀ p ∈ d.prods, kindB d p = false
  cons : ∀ k (h : k < d.prods.length), consHit d k d.prods[k] = false
  brack : ∀ p ∈ d.prods, bracketB p = false
  long : ∀ p ∈ d.prods, longB d p = false
  null : ∀ p ∈ d.prods, nullB p = false
  cycle : ∀ s ∈ sortsL d.prods, ¬ Reach d.prods bareL s s
  rej : ∀ k (h : k < d.rejects.length), rejHit d k d.rejects[k] = false
  prio : ∀ ch ∈ d.chains, prioF d ch = none
  follow : ∀ f ∈ d.follows, f.set ≠ zS
  box : ∀ k (h : k < d.boxes.length), boxHit d k d.boxes[k] = false
open Classical in
theorem check_ok (d : Df) : (checkL d).1 = 0 ↔ OkD d := by
  unfold checkL
  rw [runC_ok]
  unfold looksL
  simp only [List.mem_cons, List.not_mem_nil, or_false, forall_eq_or_imp, forall_eq]
  unfold mixedL undefL consLk cycleL rejectL prioL followL boxL
  rw [firstL_ok 42 (by decide), firstL_ok 43 (by decide), firstG_ok 44 (by decide), firstI_ok 45 (by decide), firstG_ok 46 (by decide), firstG_ok 2 (by decide), firstG_ok 47 (by decide), firstL_ok 48 (by decide), firstI_ok 49 (by decide), prioG_ok, firstG_ok 51 (by decide), firstI_ok 52 (by decide)]
  simp only [Nat.zero_add, decide_eq_false_iff_not]
  have hf : (formL d).1 = 0 ↔ rightDfB d = true := by
    unfold formL
    by_cases h : rightDfB d = true
    · rw [if_pos h]; simp [okL, h]
    · rw [if_neg h]; simp [h]
  have he : (endsL d).1 = 0 ↔ lexOf d.prods d.start = 2 ∧ (emp d.layout = true ∨ lexOf d.prods d.layout = 1) := by
    unfold endsL
    by_cases h : lexOf d.prods d.start = 2
    · rw [if_pos h]
      by_cases h2 : emp d.layout = true ∨ lexOf d.prods d.layout = 1
      · rw [if_pos h2]; exact ⟨fun _ => ⟨h, h2⟩, fun _ => rfl⟩
      · rw [if_neg h2]; exact ⟨fun e => absurd (show (41 : Int) = 0 from e) (by decide), fun e => absurd e.2 h2⟩
    · rw [if_neg h]; exact ⟨fun e => absurd (show (40 : Int) = 0 from e) (by decide), fun e => absurd e.1 h⟩
  rw [hf, he]
  constructor
  · rintro ⟨h1, h2, ⟨h3, h4⟩, h5, h6, h7, h8, h9, h10, h11, h12, h13, h14, h15⟩
    exact ⟨h1, h2, h3, h4, h5, h6, h7, h8, h9, h10, h11, h12, h13, h14, h15⟩
  · rintro ⟨h1, h2, h3, h4, h5, h6, h7, h8, h9, h10, h11, h12, h13, h14, h15⟩
    exact ⟨h1, h2, ⟨h3, h4⟩, h5, h6, h7, h8, h9, h10, h11, h12, h13, h14, h15⟩
end Go.Proofs.Ytalicfpcmcbdbaa
