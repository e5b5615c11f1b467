/- The walks of Has, Range, Union. -/
import Derived.Test.YtfngkdcjifdliaaBase
import Derived.Test.YtfngkdcjifdliaaTPlain
set_option linter.unusedVariables false
set_option linter.unusedSimpArgs false
set_option linter.unnecessarySimpa false
set_option linter.deprecated false
namespace Go.Proofs.Ytfngkdcjifdliaa
open Go.RowKit

abbrev svC (s : St) : Array Value := #[.int .u64 (s.w0 : Int), .int .u64 (s.w1 : Int), .int .u64 (s.w2 : Int), .int .u64 (s.w3 : Int)]
abbrev sv (s : St) : Value := .agg (svC s)
theorem svC_at (s : St) (i : Nat) (h : i < 4) : (svC s)[i]? = some (.int .u64 (s.word i : Int)) := by
  have : i = 0 ∨ i = 1 ∨ i = 2 ∨ i = 3 := by omega
  rcases this with rfl | rfl | rfl | rfl <;> rfl

theorem u64_in (x : Nat) (h : x < 18446744073709551616) : IntKind.u64.wrap (x : Int) = x := by
  simp only [IntKind.wrap, IntKind.bits, IntKind.signed]
  simp
  omega
theorem ofInt_nat (x : Nat) : BitVec.ofInt 64 (x : Int) = BitVec.ofNat 64 x := by simp
theorem bit_test (x n : Nat) (hx : x < 18446744073709551616) : (bits .and .u64 ((x : Int) / 2 ^ n) 1 == 1) = x.testBit n := by
  have h1 : ((x : Int) / 2 ^ n) = ((x / 2 ^ n : Nat) : Int) := by push_cast; rfl
  have hlt : x / 2 ^ n < 18446744073709551616 := Nat.lt_of_le_of_lt (Nat.div_le_self _ _) hx
  have h2 : bits .and .u64 ((x : Int) / 2 ^ n) 1 = ((x / 2 ^ n % 2 : Nat) : Int) := by
    unfold bits
    rw [h1]
    show IntKind.u64.wrap (((BitVec.ofInt 64 ((x / 2 ^ n : Nat) : Int) &&& BitVec.ofInt 64 1).toNat : Nat) : Int) = _
    rw [ofInt_nat, show BitVec.ofInt 64 1 = BitVec.ofNat 64 1 from rfl, BitVec.toNat_and, BitVec.toNat_ofNat, BitVec.toNat_ofNat, Nat.mod_eq_of_lt (by simpa using hlt), Nat.mod_eq_of_lt (by decide), Nat.and_one_is_mod]
    exact u64_in _ (by omega)
  rw [h2, Nat.testBit_eq_decide_div_mod_eq]
  have h3 : x / 2 ^ n % 2 < 2 := Nat.mod_lt _ (by decide)
  rw [Bool.eq_iff_iff]
  simp
  omega
theorem bits_or (x y : Nat) (hx : x < 18446744073709551616) (hy : y < 18446744073709551616) : bits .or .u64 (x : Int) (y : Int) = ((x ||| y : Nat) : Int) := by
  unfold bits
  show IntKind.u64.wrap (((BitVec.ofInt 64 (x : Int) ||| BitVec.ofInt 64 (y : Int)).toNat : Nat) : Int) = _
  rw [ofInt_nat, ofInt_nat, BitVec.toNat_or, BitVec.toNat_ofNat, BitVec.toNat_ofNat, Nat.mod_eq_of_lt (by simpa using hx), Nat.mod_eq_of_lt (by simpa using hy)]
  exact u64_in _ (or_lt hx hy)

set_option maxHeartbeats 2000000 in
set_option maxRecDepth 100000 in
theorem Has_any (s : St) (hs : s.ok) (b : Nat) (hb : b < 256) (w : World) : Calls Try.prog 31 #[sv s, .int .u8 (b : Int)] w fun e w' => e = .returned (.bool (has s b)) ∧ Below w.heap.size w w' := by
  have hq : b / 64 < 4 := by omega
  have HB := hide ((Below.refl w.heap.size w).alloc (Nat.le_refl _) (.cells (svC s) 24))
  have hc : (w.alloc (.cells (svC s) 24)).cell? ⟨w.heap.size, b / 64, none⟩ = some (.int .u64 (s.word (b / 64) : Int)) := by
    rw [(Blk.new w (svC s) 24).cell]
    exact svC_at s _ hq
  go_enter Try.func31, Try.ntmps31
  go_wp2
  go_ret
  exact ⟨by rw [show has s b = (s.word (b / 64)).testBit (b % 64) from rfl, ← bit_test _ _ (word_ok hs _)]; rfl, HB.out⟩

theorem bits_shl (x n : Nat) (hx : x < 18446744073709551616) (hn : n < 64) : bits .or .u64 (x : Int) (IntKind.u64.wrap (2 ^ n)) = ((x ||| 2 ^ n : Nat) : Int) := by
  have h1 : ((2 : Int) ^ n) = ((2 ^ n : Nat) : Int) := by push_cast; rfl
  rw [h1, u64_in _ (pow_lt hn), bits_or x _ hx (pow_lt hn)]
/-- A set's variable. -/
theorem sv_put (s : St) (i : Nat) (v : Nat) (h : i < 4) : (svC s).setIfInBounds i (.int .u64 (v : Int)) = svC (s.put i v) := by
  have : i = 0 ∨ i = 1 ∨ i = 2 ∨ i = 3 := by omega
  rcases this with rfl | rfl | rfl | rfl <;> rfl
theorem Blk.set {w : World} {k : Nat} {c : Array Value} {t : TypeId} (h : Blk w k c t) (i : Nat) (x : Value) : Blk (w.setCell ⟨k, i, none⟩ x) k (c.setIfInBounds i x) t := by
  unfold Blk at h ⊢
  simp only [World.setCell, Array.getElem?_modify, h]
  simp
theorem Blk.other {w : World} {k b i : Nat} {c : Array Value} {t : TypeId} {x : Value} (h : Blk w k c t) (hne : k ≠ b) : Blk (w.setCell ⟨b, i, none⟩ x) k c t := by
  unfold Blk at h ⊢
  rw [Below.heap_setCell _ _ _ _ hne]
  exact h

structure RgRel (w : World) (lo i : Nat) (wr : World) : Prop where
  below : Below w.heap.size w wr
  res : Blk wr w.heap.size (svC zS) 24
  set : Blk wr (w.heap.size + 1) (svC (rngS lo (i - lo) zS)) 24
  le : lo ≤ i
theorem rngS_snoc : ∀ (n lo : Nat) (s : St), rngS lo (n + 1) s = addB (rngS lo n s) (lo + n)
  | 0, lo, s => by rw [rngS, rngS, rngS]; rfl
  | n + 1, lo, s => by rw [rngS, rngS_snoc n (lo + 1), rngS]; congr 1; omega

theorem ret39 {R : Ending → World → Prop} {a : Act} {W : World} {k : Nat} {s : St} {v : Value} (h4 : (a.tmps[4]?).getD undef = .pointer (some ⟨k, 0, none⟩)) (h5 : (a.tmps[5]?).getD undef = v) (hd : a.defers = []) (hb : Blk W k (svC s) 24) (hR : R (.returned (.tuple #[sv s, v])) W) : bodyPost Try.prog Try.f39 R .ret a W := by
  have f0 : W.cell? ⟨k, 0, none⟩ = some (.int .u64 (s.w0 : Int)) := hb.cell 0
  have f1 : W.cell? ⟨k, 1, none⟩ = some (.int .u64 (s.w1 : Int)) := hb.cell 1
  have f2 : W.cell? ⟨k, 2, none⟩ = some (.int .u64 (s.w2 : Int)) := hb.cell 2
  have f3 : W.cell? ⟨k, 3, none⟩ = some (.int .u64 (s.w3 : Int)) := hb.cell 3
  refine ⟨hd, .tuple #[sv s, v], ?_, hR⟩
  simp [results, Try.results39, h4, h5, go_sem, f0, f1, f2, f3, Try.isAgg24, Try.sizeOf24]
set_option maxHeartbeats 4000000 in
set_option maxRecDepth 100000 in
theorem Range_any (lo hi : Nat) (hl : lo ≤ hi) (hh : hi < 256) (w : World) : Calls Try.prog 39 #[.int .i64 (lo : Int), .int .i64 (hi : Int)] w fun e w' => e = .returned (.tuple #[sv (rangeS lo hi), .int .i64 0]) ∧ Below w.heap.size w w' := by
  have h1 : ¬ (lo : Int) < 0 := by omega
  have h2 : ¬ (255 : Int) < (hi : Int) := by omega
  have h3 : ¬ (hi : Int) < (lo : Int) := by omega
  have hb0 := ((Below.refl w.heap.size w).alloc (Nat.le_refl _) (.cells (svC zS) 24)).alloc (by simp) (.cells (svC zS) 24)
  have hn1 : Blk ((w.alloc (.cells (svC zS) 24)).alloc (.cells (svC zS) 24)) w.heap.size (svC zS) 24 := (Blk.new w _ _).alloc _
  have hn2 : Blk ((w.alloc (.cells (svC zS) 24)).alloc (.cells (svC zS) 24)) (w.heap.size + 1) (svC zS) 24 := by
    have := Blk.new (w.alloc (.cells (svC zS) 24)) (svC zS) 24
    rw [World.size_alloc] at this
    exact this
  have HR0 := hide (show RgRel w lo lo ((w.alloc (.cells (svC zS) 24)).alloc (.cells (svC zS) 24)) from ⟨hb0, hn1, by rw [Nat.sub_self]; exact hn2, Nat.le_refl _⟩)
  clear hb0 hn1 hn2
  go_enter Try.func39, Try.ntmps39
  go_upto_region 4 with fail
  rw [show ((w.alloc (.cells #[.int .u64 0, .int .u64 0, .int .u64 0, .int .u64 0] 24)).alloc (.cells #[.int .u64 0, .int .u64 0, .int .u64 0, .int .u64 0] 24)) = ((w.alloc (.cells (svC zS) 24)).alloc (.cells (svC zS) 24)) from rfl]
  generalize ((w.alloc (.cells (svC zS) 24)).alloc (.cells (svC zS) 24)) = w0 at HR0 ⊢
  go_wp2_with fail
  go_loopg [7] (hi + 1 - lo) (fun u v7 wr => ∃ i : Nat, Hid (u = hi + 1 - i) ∧ v7 = .int .i64 (i : Int) ∧ i ≤ hi + 1 ∧ Hid (RgRel w lo i wr))
  case atStart => exact ⟨lo, rfl, rfl, by omega, HR0⟩
  case round =>
    obtain ⟨i, hu, rfl, hi1, hr⟩ := hrel
    have hli := hr.out.le
    by_cases hih : i ≤ hi
    · have hihi : (i : Int) ≤ (hi : Int) := by omega
      have hq : i / 64 < 4 := by omega
      have hcs : wr.cell? ⟨w.heap.size + 1, i / 64, none⟩ = some (.int .u64 ((rngS lo (i - lo) zS).word (i / 64) : Int)) := by
        rw [hr.out.set.cell]; exact svC_at _ _ hq
      have hfs := hr.out.set.free (i / 64)
      have hls := hr.out.set.lt
      have hok := word_ok (rngS_ok (i - lo) lo zS zS_ok) (i / 64)
      have HN := hide (show RgRel w lo (i + 1) (wr.setCell ⟨w.heap.size + 1, i / 64, none⟩ (.int .u64 (bits .or .u64 ((rngS lo (i - lo) zS).word (i / 64) : Int) (IntKind.u64.wrap (2 ^ (i % 64)))))).drew from
        ⟨Below.drew (hr.out.below.setCell (p := ⟨w.heap.size + 1, i / 64, none⟩) (by show w.heap.size ≤ w.heap.size + 1; omega) _), hr.out.res.other (by omega), by
          rw [show i + 1 - lo = (i - lo) + 1 by omega, rngS_snoc, show lo + (i - lo) = i by omega, bits_shl _ _ hok (Nat.mod_lt _ (by decide))]
          have := hr.out.set.set (i / 64) (.int .u64 (((rngS lo (i - lo) zS).word (i / 64) ||| 2 ^ (i % 64) : Nat) : Int))
          rw [sv_put _ _ _ hq] at this
          exact this, by omega⟩)
      clear hr hok
      generalize (rngS lo (i - lo) zS).word (i / 64) = x at *
      go_upto_region 7 with fail
      go_region
      go_wp2_with fail
      go_roundg (hi + 1 - (i + 1))
      case measure => rw [hu.out]; omega
      case rel => exact ⟨i + 1, rfl, by go_num, by omega, HN⟩
    · obtain rfl : i = hi + 1 := by omega
      have hihi : ¬ ((hi + 1 : Nat) : Int) ≤ (hi : Int) := by omega
      have HE := hide (show rangeS lo hi = rngS lo (hi + 1 - lo) zS from rfl)
      have hset := hr.out.set
      have hres := hr.out.res
      have HB := hide hr.out.below
      generalize rngS lo (hi + 1 - lo) zS = q at hset HE
      have e0 := hset.cell 0
      have e1 := hset.cell 1
      have e2 := hset.cell 2
      have e3 := hset.cell 3
      have el := hset.lt
      have f0 := hres.free 0
      have f1 := hres.free 1
      have f2 := hres.free 2
      have f3 := hres.free 3
      have g0 := hres.cell 0
      have g1 := hres.cell 1
      have g2 := hres.cell 2
      have g3 := hres.cell 3
      have gl := hres.lt
      have HRS := hide hres
      clear hr hset hres
      go_wp2_with fail
      refine ret39 (k := w.heap.size) (s := q) rfl rfl rfl ?_ ?_
      · exact (((HRS.out.set 0 _).set 1 _).set 2 _).set 3 _
      · refine ⟨by rw [HE.out]; rfl, ?_⟩
        exact ((((HB.out.setCell (p := ⟨w.heap.size, 0, none⟩) (Nat.le_refl _) _).setCell (p := ⟨w.heap.size, 1, none⟩) (Nat.le_refl _) _).setCell (p := ⟨w.heap.size, 2, none⟩) (Nat.le_refl _) _).setCell (p := ⟨w.heap.size, 3, none⟩) (Nat.le_refl _) _)
end Go.Proofs.Ytfngkdcjifdliaa
