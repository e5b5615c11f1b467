/- The walk of bracketed, where a set's text stands. -/
import Derived.Test.YtfngkdcjifdliaaParse
set_option linter.unusedVariables false
set_option linter.unusedSimpArgs false
set_option linter.unnecessarySimpa false
set_option linter.deprecated false
namespace Go.Proofs.Ytfngkdcjifdliaa
open Go.RowKit

/-- What holds no closing bracket but behind a backslash. -/
def shutB : List UInt8 → Bool
  | [] => true
  | [b] => b != 92 && b != 93
  | b :: c :: r => if b = 92 then shutB r else b != 93 && shutB (c :: r)
theorem shutB_plain (b : UInt8) (r : List UInt8) (h2 : b ≠ 92) (h3 : b ≠ 93) : shutB (b :: r) = shutB r := by
  cases r with
  | nil => simp [shutB, h2, h3]
  | cons c r => rw [shutB, if_neg h2]; simp [h3]
theorem shutB_esc (c : UInt8) (r : List UInt8) : shutB (92 :: c :: r) = shutB r := by rw [shutB, if_pos rfl]
theorem hexD_plain : ∀ q, q < 16 → hexD q ≠ 92 ∧ hexD q ≠ 93
  | 0, _ | 1, _ | 2, _ | 3, _ | 4, _ | 5, _ | 6, _ | 7, _ | 8, _ | 9, _ | 10, _ | 11, _ | 12, _ | 13, _ | 14, _ | 15, _ => by decide +kernel
  | q + 16, h => by omega
theorem shutB_sign (b : Nat) (hb : b ≤ 255) (r : List UInt8) : shutB (signL b ++ r) = shutB r := by
  unfold signL
  by_cases k1 : b = 10
  · rw [if_pos k1]; exact shutB_esc _ _
  by_cases k2 : b = 9
  · rw [if_neg k1, if_pos k2]; exact shutB_esc _ _
  by_cases k3 : b = 13
  · rw [if_neg k1, if_neg k2, if_pos k3]; exact shutB_esc _ _
  by_cases k4 : b = 32
  · rw [if_neg k1, if_neg k2, if_neg k3, if_pos k4]; exact shutB_esc _ _
  rw [if_neg k1, if_neg k2, if_neg k3, if_neg k4]
  by_cases k5 : b = 91 ∨ b = 93 ∨ b = 92 ∨ b = 45 ∨ b = 94
  · rw [if_pos k5]; exact shutB_esc _ _
  · rw [if_neg k5]
    by_cases k6 : 32 < b ∧ b < 127
    · rw [if_pos k6]
      apply shutB_plain
      all_goals
        intro e
        have := congrArg UInt8.toNat e
        rw [UInt8.toNat_ofNat'] at this
        simp at this
        omega
    · rw [if_neg k6]
      have h1 := hexD_plain (b / 16) (by omega)
      have h2 := hexD_plain (b % 16) (by omega)
      show shutB (92 :: 120 :: hexD (b / 16) :: hexD (b % 16) :: r) = _
      rw [shutB_esc, shutB_plain _ _ h1.1 h1.2, shutB_plain _ _ h2.1 h2.2]
theorem shutB_its : ∀ (l : List (Nat × Nat)), (∀ r ∈ l, okR r) → shutB (l.flatMap itT) = true
  | [], _ => rfl
  | r :: rs, h => by
    have h0 := h r (List.mem_cons_self ..)
    have h1 := shutB_its rs (fun q hq => h q (List.mem_cons_of_mem _ hq))
    rw [List.flatMap_cons]
    unfold itT
    split
    · rw [shutB_sign _ (by have := h0.1; have := h0.2; omega)]; exact h1
    · rw [List.append_assoc, shutB_sign _ (by have := h0.1; have := h0.2; omega)]
      show shutB (45 :: (signL r.2 ++ rs.flatMap itT)) = true
      rw [shutB_plain _ _ (by decide) (by decide), shutB_sign _ (by have := h0.2; omega)]
      exact h1
/-- The world while a bracket is looked for. -/
structure BrW (text : ByteArray) (rest : List UInt8) (i : Nat) (rem : List UInt8) : Prop where
  text : text.data.toList.drop i = rem ++ 93 :: rest
  shut : shutB rem = true
theorem BrW.len {text : ByteArray} {rest : List UInt8} {i : Nat} {rem : List UInt8} (h : BrW text rest i rem) : text.size = i + rem.length + 1 + rest.length := by
  have := congrArg List.length h.text
  rw [List.length_drop, List.length_append, List.length_cons, size_len text] at this
  omega
theorem BrW.at_ {text : ByteArray} {rest : List UInt8} {i : Nat} {rem : List UInt8} (h : BrW text rest i rem) (hi : i < text.size) : text[i]'hi = (rem ++ 93 :: rest)[0]'(by rw [List.length_append, List.length_cons]; omega) := by
  rw [byte_at rfl]
  have h2 : text.data.toList[i]'(by rw [size_len text]; exact hi) = (text.data.toList.drop i)[0]'(by rw [List.length_drop, size_len text]; omega) := by rw [List.getElem_drop]; rfl
  rw [h2]
  simp only [h.text]
theorem BrW.skip {text : ByteArray} {rest : List UInt8} {i : Nat} {a r : List UInt8} (h : BrW text rest i (a ++ r)) (hs : shutB (a ++ r) = shutB r) : BrW text rest (i + a.length) r := by
  refine ⟨?_, by rw [← hs]; exact h.shut⟩
  rw [← List.drop_drop, h.text, List.append_assoc, List.drop_append, List.drop_of_length_le (Nat.le_refl _)]
  simp
theorem blk_drew {w : World} {k : Nat} {c : Array Value} {t : TypeId} (h : Blk w k c t) : Blk w.drew k c t := h
theorem ret23 {R : Ending → World → Prop} {a : Act} {W : World} {k j : Nat} {s : St} {v : Value} (h2 : (a.tmps[4]?).getD undef = .pointer (some ⟨k, 0, none⟩)) (h5 : (a.tmps[5]?).getD undef = v) (h3 : (a.tmps[6]?).getD undef = .pointer (some ⟨j, 0, none⟩)) (hd : a.defers = []) (hb : Blk W k (svC s) 24) (hf : Blk W j #[.int .i64 0, .int .i64 0] 30) (hR : R (.returned (.tuple #[sv s, v, .agg #[.int .i64 0, .int .i64 0]])) W) : bodyPost Try.prog Try.f23 R .ret a W := by
  have f0 : W.cell? ⟨k, 0, none⟩ = some (.int .u64 (s.w0 : Int)) := hb.cell 0
  have f1 : W.cell? ⟨k, 1, none⟩ = some (.int .u64 (s.w1 : Int)) := hb.cell 1
  have f2 : W.cell? ⟨k, 2, none⟩ = some (.int .u64 (s.w2 : Int)) := hb.cell 2
  have f3 : W.cell? ⟨k, 3, none⟩ = some (.int .u64 (s.w3 : Int)) := hb.cell 3
  have g0 : W.cell? ⟨j, 0, none⟩ = some (.int .i64 0) := hf.cell 0
  have g1 : W.cell? ⟨j, 1, none⟩ = some (.int .i64 0) := hf.cell 1
  refine ⟨hd, .tuple #[sv s, v, .agg #[.int .i64 0, .int .i64 0]], ?_, hR⟩
  simp [results, Try.results23, h2, h5, h3, go_sem, f0, f1, f2, f3, g0, g1, Try.isAgg24, Try.sizeOf24, Try.isAgg30, Try.sizeOf30]

set_option maxHeartbeats 4000000 in
set_option maxRecDepth 100000 in
theorem bracketed_ok (text : ByteArray) (p : Nat) (l : List (Nat × Nat)) (rest : List UInt8) (w : World) (hl : ∀ r ∈ l, okR r) (ht : text.data.toList.drop p = 91 :: (l.flatMap itT ++ 93 :: rest)) (hs : text.size ≤ 65536) :
    Calls Try.prog 23 #[.string text, .int .i64 (p : Int)] w fun e w' => e = .returned (.tuple #[sv (setOf l zS), .int .i64 ((p + (l.flatMap itT).length + 2 : Nat) : Int), .agg #[.int .i64 0, .int .i64 0]]) ∧ Below w.heap.size w w' := by
  have hB0 : BrW text rest (p + 1) (l.flatMap itT) := ⟨by rw [← List.drop_drop, ht]; rfl, shutB_its l hl⟩
  have hlen := hB0.len
  have hpi : (p : Int) + 1 ≤ 70000 := by omega
  have HB0 := hide hB0
  have HT := hide ht
  have HL := hide hl
  have hsi : (text.size : Int) ≤ 65536 := by omega
  have HLN := hide hlen
  clear hB0 ht hl hlen
  go_enter Try.func23, Try.ntmps23
  go_wp2_with fail
  go_loopg [7] (text.size - (p + 1)) (fun m v7 wr => ∃ (i : Nat) (rem : List UInt8), Hid (m = text.size - i) ∧ v7 = .int .i64 (i : Int) ∧ Hid (BrW text rest i rem ∧ i + rem.length = p + 1 + (l.flatMap itT).length ∧ p < i) ∧ wr = ((w.alloc (.cells #[.int .u64 0, .int .u64 0, .int .u64 0, .int .u64 0] 24)).alloc (.cells #[.int .i64 0, .int .i64 0] 30)))
  case atStart => exact ⟨p + 1, _, hide rfl, rfl, hide ⟨HB0.out, rfl, by omega⟩, rfl⟩
  case round =>
    obtain ⟨i, rem, hu, rfl, hr, rfl⟩ := hrel
    have hln := hr.out.1.len
    have hi : i < text.size := by omega
    have hii : (i : Int) < (text.size : Int) := by omega
    have hii1 : (i : Int) + 1 ≤ (text.size : Int) := by omega
    have hii2 : (i : Int) + 2 ≤ 80000 := by omega
    obtain ⟨c, hc⟩ : ∃ c, text[i]'hi = c := ⟨_, rfl⟩
    have hc2 := hr.out.1.at_ hi
    rw [hc] at hc2
    cases rem with
    | nil =>
      have h93 : c = 93 := hc2
      subst h93
      have hpi1 : (p : Int) ≤ (i : Int) + 1 := by have := hr.out.2.2; omega
      have hnn : p ≤ i + 1 := by have := hr.out.2.2; omega
      have hn1 : i + 1 ≤ text.size := hi
      have hil : i = p + 1 + (l.flatMap itT).length := by have := hr.out.2.1; simpa using this
      have HIL := hide hil
      have hsl : (text.extract p (i + 1)).data.toList = 91 :: (l.flatMap itT ++ [93]) := by
        rw [Lib.extract_data, HT.out]
        rw [show i + 1 - p = (l.flatMap itT).length + 2 by omega]
        generalize l.flatMap itT = body
        show 91 :: List.take (body.length + 1) (body ++ 93 :: rest) = _
        rw [List.take_append, List.take_of_length_le (by omega)]
        simp
      obtain ⟨sl, hsle⟩ : ∃ sl, text.extract p (i + 1) = sl := ⟨_, rfl⟩
      rw [hsle] at hsl
      have hss : sl.size ≤ 65536 := by rw [← hsle, ByteArray.size_extract]; omega
      have HC := hide (fun W => parse_set sl l W HL.out hsl hss)
      clear hss
      clear hil hsl hc2 hln
      go_wp2_with fail
      refine (HC.out _).mono ?_
      rintro e w2 ⟨rfl, hb2⟩
      have hz2 := ((Blk.new w (svC zS) 24).alloc (.cells #[.int .i64 0, .int .i64 0] 30)).below hb2
      have hf2 : Blk w2 (w.heap.size + 1) #[.int .i64 0, .int .i64 0] 30 := by
        have := (Blk.new (w.alloc (.cells (svC zS) 24)) #[.int .i64 0, .int .i64 0] 30).below hb2
        simp only [World.size_alloc] at this
        exact this
      have hn1 : Blk ((w2.alloc (.cells #[.int .u64 ((setOf l zS).w0 : Int), .int .u64 ((setOf l zS).w1 : Int), .int .u64 ((setOf l zS).w2 : Int), .int .u64 ((setOf l zS).w3 : Int)] 24)).alloc (.cells #[.int .i64 0, .int .i64 0] 30)) w2.heap.size (svC (setOf l zS)) 24 := (Blk.new w2 (svC (setOf l zS)) 24).alloc (.cells #[.int .i64 0, .int .i64 0] 30)
      have hn2 : Blk ((w2.alloc (.cells #[.int .u64 ((setOf l zS).w0 : Int), .int .u64 ((setOf l zS).w1 : Int), .int .u64 ((setOf l zS).w2 : Int), .int .u64 ((setOf l zS).w3 : Int)] 24)).alloc (.cells #[.int .i64 0, .int .i64 0] 30)) (w2.heap.size + 1) #[.int .i64 0, .int .i64 0] 30 := by
        have := Blk.new (w2.alloc (.cells (svC (setOf l zS)) 24)) #[.int .i64 0, .int .i64 0] 30
        simp only [World.size_alloc] at this
        exact this
      have hz4 : Blk ((w2.alloc (.cells #[.int .u64 ((setOf l zS).w0 : Int), .int .u64 ((setOf l zS).w1 : Int), .int .u64 ((setOf l zS).w2 : Int), .int .u64 ((setOf l zS).w3 : Int)] 24)).alloc (.cells #[.int .i64 0, .int .i64 0] 30)) w.heap.size (svC zS) 24 := (hz2.alloc (.cells (svC (setOf l zS)) 24)).alloc (.cells #[.int .i64 0, .int .i64 0] 30)
      have hf4 : Blk ((w2.alloc (.cells #[.int .u64 ((setOf l zS).w0 : Int), .int .u64 ((setOf l zS).w1 : Int), .int .u64 ((setOf l zS).w2 : Int), .int .u64 ((setOf l zS).w3 : Int)] 24)).alloc (.cells #[.int .i64 0, .int .i64 0] 30)) (w.heap.size + 1) #[.int .i64 0, .int .i64 0] 30 := (hf2.alloc (.cells (svC (setOf l zS)) 24)).alloc (.cells #[.int .i64 0, .int .i64 0] 30)
      have hb4 : Below w.heap.size w ((w2.alloc (.cells #[.int .u64 ((setOf l zS).w0 : Int), .int .u64 ((setOf l zS).w1 : Int), .int .u64 ((setOf l zS).w2 : Int), .int .u64 ((setOf l zS).w3 : Int)] 24)).alloc (.cells #[.int .i64 0, .int .i64 0] 30)) := by
        have h1 := below_next (((Below.refl w.heap.size w).alloc (Nat.le_refl _) (.cells (svC zS) 24)).alloc (by simp) (.cells #[.int .i64 0, .int .i64 0] 30)) hb2
        exact (h1.alloc h1.size (.cells (svC (setOf l zS)) 24)).alloc (by have := h1.size; simp; omega) (.cells #[.int .i64 0, .int .i64 0] 30)
      go_upto_region 9 with fail
      have hlt := hf2.lt
      have hne1 : w.heap.size ≠ w2.heap.size + 1 := by omega
      have hne2 : w.heap.size + 1 ≠ w2.heap.size + 1 := by omega
      have hne3 : w.heap.size ≠ w2.heap.size := by omega
      have hne4 : w.heap.size + 1 ≠ w2.heap.size := by omega
      have hne5 : w2.heap.size + 1 ≠ w.heap.size := by omega
      have hne6 : w2.heap.size ≠ w.heap.size := by omega
      have hne7 : w2.heap.size ≠ w.heap.size + 1 := by omega
      generalize ((w2.alloc (.cells #[.int .u64 ((setOf l zS).w0 : Int), .int .u64 ((setOf l zS).w1 : Int), .int .u64 ((setOf l zS).w2 : Int), .int .u64 ((setOf l zS).w3 : Int)] 24)).alloc (.cells #[.int .i64 0, .int .i64 0] 30)) = w4 at hn1 hn2 hz4 hf4 hb4 ⊢
      have m0 := hn2.cell 0
      have m1 := hn2.cell 1
      have k0 : w4.cell? ⟨w2.heap.size, 0, none⟩ = some (.int .u64 ((setOf l zS).w0 : Int)) := hn1.cell 0
      have k1 : w4.cell? ⟨w2.heap.size, 1, none⟩ = some (.int .u64 ((setOf l zS).w1 : Int)) := hn1.cell 1
      have k2 : w4.cell? ⟨w2.heap.size, 2, none⟩ = some (.int .u64 ((setOf l zS).w2 : Int)) := hn1.cell 2
      have k3 : w4.cell? ⟨w2.heap.size, 3, none⟩ = some (.int .u64 ((setOf l zS).w3 : Int)) := hn1.cell 3
      have z0 : w4.cell? ⟨w.heap.size, 0, none⟩ = some (.int .u64 0) := hz4.cell 0
      have z1 : w4.cell? ⟨w.heap.size, 1, none⟩ = some (.int .u64 0) := hz4.cell 1
      have z2 : w4.cell? ⟨w.heap.size, 2, none⟩ = some (.int .u64 0) := hz4.cell 2
      have z3 : w4.cell? ⟨w.heap.size, 3, none⟩ = some (.int .u64 0) := hz4.cell 3
      have y0 := hz4.free 0
      have y1 := hz4.free 1
      have y2 := hz4.free 2
      have y3 := hz4.free 3
      have g0 := hf4.cell 0
      have g1 := hf4.cell 1
      have x0 := hf4.free 0
      have x1 := hf4.free 1
      have HZ4 := hide hz4
      have HF4 := hide hf4
      have HB4 := hide hb4
      clear hn1 hn2 hz4 hf4 hb4 hz2 hf2 hb2
      go_upto_region 11 with fail
      go_region
      go_wp2_with fail
      refine ret23 (k := w.heap.size) (j := w.heap.size + 1) (s := setOf l zS) (v := .int .i64 ((p + (l.flatMap itT).length + 2 : Nat) : Int)) rfl ?_ rfl rfl ?_ ?_ ⟨rfl, ?_⟩
      · have := HIL.out
        exact congrArg (Value.int .i64) (by omega)
      · exact blk_drew ((((((HZ4.out.set 0 _).set 1 _).set 2 _).set 3 _).other (by omega)).other (by omega))
      · exact blk_drew ((((((HF4.out.other (by omega)).other (by omega)).other (by omega)).other (by omega)).set 0 _).set 1 _)
      · exact ((((((HB4.out.setAt (by omega)).setAt (by omega)).setAt (by omega)).setAt (by omega)).setAt (by omega)).setAt (by omega)).drew
    | cons b rm =>
      have hcb : c = b := hc2
      subst hcb
      have hsh := hr.out.1.shut
      by_cases h92 : c = 92
      · subst h92
        cases rm with
        | nil => exact absurd hsh (by decide)
        | cons d r =>
          have HN := hide (show BrW text rest (i + 2) r from hr.out.1.skip (a := [92, d]) (shutB_esc d r))
          have HM := hide (show i + 2 + r.length = p + 1 + (l.flatMap itT).length ∧ p < i + 2 from by have := hr.out.2; simp only [List.length_cons] at this; omega)
          clear hsh hc2 hln hr
          go_wp2_with fail
          go_roundg (text.size - (i + 2))
          case measure => rw [hu.out]; omega
          case rel => exact ⟨i + 2, r, hide rfl, by go_num, hide ⟨HN.out, HM.out⟩, rfl⟩
      · have h93 : c ≠ 93 := by
          intro h
          subst h
          cases rm with
          | nil => exact absurd hsh (by decide)
          | cons d r => rw [shutB, if_neg (by decide)] at hsh; exact absurd hsh (by simp)
        have t1 : ((c.toNat : Int) == 92) = false := by
          rw [beq_eq_false_iff_ne]
          intro h
          apply h92
          apply UInt8.toNat_inj.1
          show c.toNat = 92
          omega
        have t2 : ((c.toNat : Int) == 93) = false := by
          rw [beq_eq_false_iff_ne]
          intro h
          apply h93
          apply UInt8.toNat_inj.1
          show c.toNat = 93
          omega
        have HN := hide (show BrW text rest (i + 1) rm from hr.out.1.skip (a := [c]) (shutB_plain c rm h92 h93))
        have HM := hide (show i + 1 + rm.length = p + 1 + (l.flatMap itT).length ∧ p < i + 1 from by have := hr.out.2; simp only [List.length_cons] at this; omega)
        clear hsh hc2 hln hr h92 h93
        go_wp2_with fail
        go_roundg (text.size - (i + 1))
        case measure => rw [hu.out]; omega
        case rel => exact ⟨i + 1, rm, hide rfl, by go_num, hide ⟨HN.out, HM.out⟩, rfl⟩
end Go.Proofs.Ytfngkdcjifdliaa
