/- The law LayoutNest, walked. -/
import Derived.Test.YtcmhlfnmjpmjhaaLSame
import Derived.Test.YtcmhlfnmjpmjhaaPTexts
import Derived.Test.YtcmhlfnmjpmjhaaOwn
import Derived.Deep.RegionHeld3
set_option linter.unusedVariables false
set_option linter.unusedSimpArgs false
set_option linter.unnecessarySimpa false
set_option linter.deprecated false
namespace Go.Proofs.Ytcmhlfnmjpmjhaa
open Go.RowKit

abbrev hardV : Value := .agg #[.int .i64 3, .string emptyB, .int .i64 0, .slice none 0 0]
abbrev hardC : Array Value := #[.int .i64 3, .string emptyB, .int .i64 0, .slice none 0 0]
set_option maxHeartbeats 2000000 in
set_option maxRecDepth 100000 in
theorem same_hard (w : World) : Calls Try.prog 15 #[hardV, hardV] w fun e w' => e = .returned (.bool true) ∧ Below w.heap.size w w' := by
  have hb0 := ((Below.refl w.heap.size w).alloc (Nat.le_refl _) (.cells hardC 24)).alloc (by simp) (.cells hardC 24)
  have HB := hide hb0
  clear hb0
  go_enter Try.func15, Try.ntmps15
  go_wp2_with fail
  go_loopg [5] 0 (fun m v5 wr => v5 = .int .i64 0 ∧ wr = ((w.alloc (.cells hardC 24)).alloc (.cells hardC 24)))
  case atStart => exact ⟨rfl, rfl⟩
  case round =>
    obtain ⟨rfl, rfl⟩ := hrel
    go_wp2_with fail
    go_ret
    exact ⟨rfl, HB.out⟩

theorem bits7 (x : Int) : ∃ d : Nat, d < 8 ∧ bits .and .i64 x 7 = (d : Int) := by
  unfold bits
  refine ⟨(BitVec.ofInt IntKind.i64.bits x &&& BitVec.ofInt IntKind.i64.bits 7).toNat, ?_, ?_⟩
  · rw [BitVec.toNat_and]
    have := @Nat.and_le_right (BitVec.ofInt IntKind.i64.bits x).toNat (BitVec.ofInt IntKind.i64.bits 7).toNat
    have h3 : (BitVec.ofInt IntKind.i64.bits 7).toNat = 7 := by decide
    omega
  · refine IntWalk.i64_in _ ?_
    have : (BitVec.ofInt IntKind.i64.bits x &&& BitVec.ofInt IntKind.i64.bits 7).toNat < 8 := by
      rw [BitVec.toNat_and]
      have := @Nat.and_le_right (BitVec.ofInt IntKind.i64.bits x).toNat (BitVec.ofInt IntKind.i64.bits 7).toNat
      have h3 : (BitVec.ofInt IntKind.i64.bits 7).toNat = 7 := by decide
      omega
    simp only
    omega

theorem rd_pair {W : World} {b : Nat} {k n : Int} {d : Dc} {a : Option Addr} {c : Nat} (hk : -9223372036854775808 ≤ k ∧ k ≤ 9223372036854775807) (hn : -9223372036854775808 ≤ n ∧ n ≤ 9223372036854775807)
    (h : Blk W b #[.int .i64 3, .string emptyB, .int .i64 0, .slice none 0 0, .int .i64 d.kind, .string d.text, .int .i64 d.num, .slice a d.kids.length c] 24) (hd : RD W d (.agg #[.int .i64 d.kind, .string d.text, .int .i64 d.num, .slice a d.kids.length c])) :
    RD W (.mk k emptyB n [hardD, d]) (.agg #[.int .i64 k, .string emptyB, .int .i64 n, .slice (some ⟨b, 0, none⟩) 2 2]) := by
  have c1 := h.cell
  refine RDo.shut hk (by decide) hn ⟨by simp, fun _ => ⟨b, 0, rfl, trivial, h.lt, ?_⟩⟩ rfl
  refine RDos.of fun i hi => ?_
  match i, hi with
  | 0, _ => exact ⟨_, _, _, _, c1 0, c1 1, c1 2, c1 3, RDo.shut (by omega) (by decide) (by omega) RKo.nil rfl⟩
  | 1, _ => exact ⟨_, _, _, _, c1 4, c1 5, c1 6, c1 7, hd⟩

theorem cnt_pair (k n : Int) (d : Dc) : cnt (.mk k emptyB n [hardD, d]) = cnt d + 2 ∧ vol (.mk k emptyB n [hardD, d]) = vol d := by
  unfold hardD
  constructor
  · simp [cnt, cntL]; omega
  · simp [vol, volL, show emptyB.size = 0 from rfl]

theorem cnt_plain (d : Dc) : cnt (plainD d) = cnt d + 2 ∧ vol (plainD d) = vol d := cnt_pair 6 0 d
theorem cnt_deep (n : Int) (d : Dc) : cnt (deepD n d) = cnt d + 2 ∧ vol (deepD n d) = vol d := cnt_pair 4 n d
/-- What the inner loop does. -/
structure NsRel (W : World) (s : ByteArray) (n k : Nat) (v : Value) (wr : World) : Prop where
  buf : ∃ acc, Buf W v acc wr ∧ acc ++ shift n (s.data.toList.drop k) = shift n s.data.toList ∧ acc.length ≤ 9 * k
  le : k ≤ s.size
structure NtRel (W : World) (s : ByteArray) (n k j : Nat) (c : UInt8) (v : Value) (wr : World) : Prop where
  buf : ∃ acc, Buf W v acc wr ∧ acc ++ (if c = 10 then List.replicate (n - j) 32 else []) ++ shift n (s.data.toList.drop (k + 1)) = shift n s.data.toList ∧ acc.length ≤ 9 * k + 1 + j
  le : j ≤ n
theorem shift_cons (n : Nat) (c : UInt8) (l : List UInt8) : shift n (c :: l) = c :: ((if c = 10 then List.replicate n 32 else []) ++ shift n l) := by
  unfold shift
  rw [List.flatMap_cons]
  split <;> simp
theorem NsRel.into {W : World} {s : ByteArray} {n k : Nat} {v' : Value} {w2 : World} {acc : List UInt8} (hk : k < s.size) {c : UInt8} (hc : s[k]'hk = c) (hp : acc ++ shift n (s.data.toList.drop k) = shift n s.data.toList) (hl : acc.length ≤ 9 * k) (hb : Buf W v' (acc ++ [c]) w2) : NtRel W s n k 0 c v' w2 := by
  refine ⟨⟨_, hb, ?_, by simp; omega⟩, Nat.zero_le _⟩
  rw [drop_byte s k hk, shift_cons, hc] at hp
  rw [← hp]
  simp
theorem NtRel.more {W : World} {s : ByteArray} {n k j : Nat} {v' : Value} {w2 : World} {acc : List UInt8} (hj : j < n) (hp : acc ++ (if (10 : UInt8) = 10 then List.replicate (n - j) 32 else []) ++ shift n (s.data.toList.drop (k + 1)) = shift n s.data.toList) (hl : acc.length ≤ 9 * k + 1 + j) (hb : Buf W v' (acc ++ [32]) w2) : NtRel W s n k (j + 1) 10 v' w2 := by
  refine ⟨⟨_, hb, ?_, by simp; omega⟩, hj⟩
  rw [← hp, if_pos rfl, if_pos rfl, show n - j = (n - (j + 1)) + 1 by omega, List.replicate_succ]
  simp
theorem NtRel.out {W : World} {s : ByteArray} {n k j : Nat} {c : UInt8} {v' : Value} {w2 : World} (h : NtRel W s n k j c v' w2) (hk : k < s.size) (hn : n ≤ 8) (hj : c ≠ 10 ∨ j = n) (h0 : c ≠ 10 → j = 0) : NsRel W s n (k + 1) v' w2 := by
  obtain ⟨⟨acc, h1, h2, h3⟩, h4⟩ := h
  refine ⟨⟨acc, h1, ?_, by omega⟩, hk⟩
  rcases hj with hc | rfl
  · rw [if_neg hc, List.append_nil] at h2; exact h2
  · rw [Nat.sub_self] at h2
    split at h2 <;> simpa using h2
theorem pair2 {w : World} {A B : Array Value} : Blk ((w.alloc (.cells A 24)).alloc (.cells B 24)) w.heap.size A 24 ∧ Blk ((w.alloc (.cells A 24)).alloc (.cells B 24)) (w.heap.size + 1) B 24 ∧ Below w.heap.size w ((w.alloc (.cells A 24)).alloc (.cells B 24)) := by
  refine ⟨(Blk.new w _ _).alloc _, ?_, ((Below.refl _ w).alloc (Nat.le_refl _) _).alloc (by simp) _⟩
  have := Blk.new (w.alloc (.cells A 24)) B 24
  rw [World.size_alloc] at this
  exact this
mutual
theorem lay_size : ∀ (j : Jb) (fl : Bool) (t : Nat) (st : Wst), st.out.length ≤ 65536 → (layJ j fl t st).out.length ≤ 65536
  | .text s, fl, t, st, h => by
    rw [layJ]
    split
    · exact h
    · unfold putM; split
      · simpa using ‹_›
      · exact h
  | .line s i f, fl, t, st, h => by
    rw [layJ]
    split
    · exact h
    · split
      · unfold putM; split
        · simpa using ‹_›
        · exact h
      · unfold wrapM; split
        · rename_i h2; simp only [List.length_append, List.length_cons, List.length_replicate]; omega
        · exact h
  | .hard i, fl, t, st, h => by
    rw [layJ]
    split
    · exact h
    · unfold wrapM; split
      · rename_i h2; simp only [List.length_append, List.length_cons, List.length_replicate]; omega
      · exact h
  | .many ks g, fl, t, st, h => by
    rw [layJ]
    split
    · exact h
    · split
      · split
        · exact lay_sizeL ks _ _ _ h
        · exact lay_sizeL ks _ _ _ h
      · exact lay_sizeL ks _ _ _ h
theorem lay_sizeL : ∀ (js : List Jb) (fl : Bool) (t : Nat) (st : Wst), st.out.length ≤ 65536 → (layL js fl t st).out.length ≤ 65536
  | [], fl, t, st, h => by rw [layL]; exact h
  | x :: xs, fl, t, st, h => by rw [layL]; exact lay_sizeL xs _ _ _ (lay_size x _ _ _ h)
end
theorem rend_size {d : Dc} {w : Int} {s : ByteArray} (h : rendM d w = (s, 0)) : s.size ≤ 65536 := by
  obtain ⟨_, _, rfl⟩ := rend_ok h
  rw [outM_lay]
  exact lay_size (jobOf d 0) false 0 (st0 w) (by simp [st0])

set_option maxHeartbeats 8000000 in
set_option maxRecDepth 100000 in
theorem law_nest (d : Dc) (n : Int) (width : Int) (v : Value) (w : World) (hT : RD w d v) (hn : -9223372036854775808 ≤ n ∧ n ≤ 9223372036854775807) (hw : -9223372036854775808 ≤ width ∧ width ≤ 9223372036854775807) :
    Calls Try.prog 5 #[v, .int .i64 n, .int .i64 width] w fun e w' => e = .returned (.bool true) ∧ Below w.heap.size w w' := by
  obtain ⟨a2, c2, rfl, hkd, htt, hnn, hks⟩ := hT.open
  obtain ⟨m, hm8, hbits⟩ := bits7 n
  obtain ⟨i0, hi, hz0, hz1, hz2⟩ := info_parts info5
  have HT := hide (fun W (h : Below w.heap.size w W) => RD.below h hT)
  have hb0 := (Below.refl w.heap.size w).alloc (Nat.le_refl _) (.cells #[.int .i64 d.kind, .string d.text, .int .i64 d.num, .slice a2 d.kids.length c2] 24)
  have HB := hide hb0
  have HBX := hide (Blk.new w #[.int .i64 d.kind, .string d.text, .int .i64 d.num, .slice a2 d.kids.length c2] 24)
  have HH := hide (heavy_any d _ _ (HT.out _ hb0))
  have HA := hide (fun W => alive_any W)
  clear hT hks hb0
  have hq1 : (1 : Int) + (m : Int) = ((m + 1 : Nat) : Int) := by omega
  obtain ⟨p, hp⟩ : ∃ p, m + 1 = p := ⟨_, rfl⟩
  rw [hp] at hq1
  have hp8 : p ≤ 8 := by omega
  have hp1 : 1 ≤ p := by omega
  clear hp hm8
  go_enter Try.func5, Try.ntmps5
  cases hh : heavyB d with
  | true =>
    rw [hh] at HH
    go_wp2_with fail
    refine HH.out.mono ?_
    rintro e w1 ⟨rfl, h1⟩
    replace HB := hide (below_next HB.out h1)
    clear h1
    go_wp2_with fail
    refine (HA.out _).mono ?_
    rintro e w2 ⟨rfl, h2⟩
    replace HB := hide (below_next HB.out h2)
    clear h2
    go_wp2_with fail
    go_ret
    exact ⟨rfl, HB.out⟩
  | false =>
    rw [hh] at HH
    obtain ⟨hc7, hv7⟩ := of_heavy hh
    by_cases hl : width < 0 ∨ 300 < width
    · rcases hl with hl | hl
      · go_wp2_with fail
        refine HH.out.mono ?_
        rintro e w1 ⟨rfl, h1⟩
        replace HB := hide (below_next HB.out h1)
        clear h1
        go_wp2_with fail
        refine (HA.out _).mono ?_
        rintro e w2 ⟨rfl, h2⟩
        replace HB := hide (below_next HB.out h2)
        clear h2
        go_wp2_with fail
        go_ret
        exact ⟨rfl, HB.out⟩
      · have hl2 : ¬ width < 0 := by omega
        go_wp2_with fail
        refine HH.out.mono ?_
        rintro e w1 ⟨rfl, h1⟩
        replace HB := hide (below_next HB.out h1)
        clear h1
        go_wp2_with fail
        refine (HA.out _).mono ?_
        rintro e w2 ⟨rfl, h2⟩
        replace HB := hide (below_next HB.out h2)
        clear h2
        go_wp2_with fail
        go_ret
        exact ⟨rfl, HB.out⟩
    · have hl1 : ¬ width < 0 := by omega
      have hl2 : ¬ 300 < width := by omega
      go_wp2_with fail
      refine HH.out.mono ?_
      rintro e w1 ⟨rfl, h1⟩
      replace HB := hide (below_next HB.out h1)
      replace HBX := hide (HBX.out.below h1)
      clear h1 HH
      have b0 := HBX.out.cell 0
      have b1 := HBX.out.cell 1
      have b2 := HBX.out.cell 2
      have b3 := HBX.out.cell 3
      have bl := HBX.out.lt
      go_upto_region 6 with fail
      have h3 := three (w := w1) (A := #[.int .i64 3, .string emptyB, .int .i64 0, .slice none 0 0]) (B := #[.int .i64 3, .string emptyB, .int .i64 0, .slice none 0 0, .int .i64 d.kind, .string d.text, .int .i64 d.num, .slice a2 d.kids.length c2]) (C := #[.int .i64 6, .string emptyB, .int .i64 0, .slice (some ⟨w1.heap.size + 1, 0, none⟩) 2 2])
      clear b0 b1 b2 b3 bl
      generalize hWW : (((w1.alloc (.cells #[.int .i64 3, .string emptyB, .int .i64 0, .slice none 0 0] 24)).alloc (.cells #[.int .i64 3, .string emptyB, .int .i64 0, .slice none 0 0, .int .i64 d.kind, .string d.text, .int .i64 d.num, .slice a2 d.kids.length c2] 24)).alloc (.cells #[.int .i64 6, .string emptyB, .int .i64 0, .slice (some ⟨w1.heap.size + 1, 0, none⟩) 2 2] 24)) = w2 at h3 ⊢
      clear hWW
      replace HB := hide (below_next HB.out h3.2.2.2)
      replace HBX := hide (HBX.out.below h3.2.2.2)
      have H7 := hide h3.1
      have HP := hide h3.2.1
      have H8 := hide h3.2.2.1
      clear h3
      have b0 := HBX.out.cell 0
      have b1 := HBX.out.cell 1
      have b2 := HBX.out.cell 2
      have b3 := HBX.out.cell 3
      have bl := HBX.out.lt
      have z0 := H7.out.cell 0
      have z1 := H7.out.cell 1
      have z2 := H7.out.cell 2
      have z3 := H7.out.cell 3
      have zl := H7.out.lt
      go_upto_region 7 with fail
      have h4 := pair2 (w := w2) (A := #[.int .i64 3, .string emptyB, .int .i64 0, .slice none 0 0, .int .i64 d.kind, .string d.text, .int .i64 d.num, .slice a2 d.kids.length c2]) (B := #[.int .i64 4, .string emptyB, .int .i64 (p : Int), .slice (some ⟨w2.heap.size, 0, none⟩) 2 2])
      clear b0 b1 b2 b3 bl z0 z1 z2 z3 zl
      generalize hWW : ((w2.alloc (.cells #[.int .i64 3, .string emptyB, .int .i64 0, .slice none 0 0, .int .i64 d.kind, .string d.text, .int .i64 d.num, .slice a2 d.kids.length c2] 24)).alloc (.cells #[.int .i64 4, .string emptyB, .int .i64 (p : Int), .slice (some ⟨w2.heap.size, 0, none⟩) 2 2] 24)) = w3 at h4 ⊢
      clear hWW
      replace HB := hide (below_next HB.out h4.2.2)
      replace H7 := hide (H7.out.below h4.2.2)
      replace HP := hide (HP.out.below h4.2.2)
      replace H8 := hide (H8.out.below h4.2.2)
      have HQ := hide h4.1
      have H9 := hide h4.2.1
      clear h4 HBX
      have HRP := hide (rd_pair (k := 6) (n := 0) (by omega) (by omega) HP.out (HT.out _ HB.out))
      have HRD := hide (rd_pair (k := 4) (n := (p : Int)) (by omega) (by omega) HQ.out (HT.out _ HB.out))
      have HC5 := hide (fun W v h => Right_any (deepD p d) v W h (by rw [(cnt_deep _ d).1]; omega))
      have HC1 := hide (fun W v h => Render_any (plainD d) v width W h (by rw [(cnt_plain d).1]; omega) (by rw [(cnt_plain d).2]; omega) hw)
      have HC2 := hide (fun W v h => Render_any (deepD p d) v (width + p) W h (by rw [(cnt_deep _ d).1]; omega) (by rw [(cnt_deep _ d).2]; omega) (by omega))
      have z0 := H9.out.cell 0
      have z1 := H9.out.cell 1
      have z2 := H9.out.cell 2
      have z3 := H9.out.cell 3
      have zl := H9.out.lt
      clear hc7 hv7
      cases hr : rtB 200 (deepD p d) with
      | false =>
        rw [hr] at HC5
        go_wp2_with fail
        refine (HC5.out _ _ HRD.out).mono ?_
        rintro e w4 ⟨rfl, h1⟩
        replace HB := hide (below_next HB.out h1)
        clear h1
        go_wp2_with fail
        refine (HA.out _).mono ?_
        rintro e w5 ⟨rfl, h1⟩
        replace HB := hide (below_next HB.out h1)
        clear h1
        go_wp2_with fail
        go_ret
        exact ⟨rfl, HB.out⟩
      | true =>
        rw [hr] at HC5
        obtain ⟨⟨s, e1⟩, hr1⟩ : ∃ r, rendM (plainD d) width = r := ⟨_, rfl⟩
        obtain ⟨⟨t, e2⟩, hr2⟩ : ∃ r, rendM (deepD p d) (width + p) = r := ⟨_, rfl⟩
        rw [hr1] at HC1
        rw [hr2] at HC2
        have HR1 := hide hr1
        have HR2 := hide hr2
        clear hr hr1 hr2
        go_wp2_with fail
        refine (HC5.out _ _ HRD.out).mono ?_
        rintro e w4 ⟨rfl, h1⟩
        replace HB := hide (below_next HB.out h1)
        replace H7 := hide (H7.out.below h1)
        replace HP := hide (HP.out.below h1)
        replace H8 := hide (H8.out.below h1)
        replace H9 := hide (H9.out.below h1)
        replace HRP := hide (RD.below h1 HRP.out)
        replace HRD := hide (RD.below h1 HRD.out)
        clear h1 HC5 z0 z1 z2 z3 zl
        have z0 := H8.out.cell 0
        have z1 := H8.out.cell 1
        have z2 := H8.out.cell 2
        have z3 := H8.out.cell 3
        have zl := H8.out.lt
        go_wp2_with fail
        refine (HC1.out _ _ HRP.out).mono ?_
        rintro e w5 ⟨rfl, h1⟩
        replace HB := hide (below_next HB.out h1)
        replace H7 := hide (H7.out.below h1)
        replace HP := hide (HP.out.below h1)
        replace H8 := hide (H8.out.below h1)
        replace H9 := hide (H9.out.below h1)
        replace HRD := hide (RD.below h1 HRD.out)
        clear h1 HC1 z0 z1 z2 z3 zl HRP
        have z0 := H9.out.cell 0
        have z1 := H9.out.cell 1
        have z2 := H9.out.cell 2
        have z3 := H9.out.cell 3
        have zl := H9.out.lt
        go_wp2_with fail
        refine (HC2.out _ _ HRD.out).mono ?_
        rintro e w6 ⟨rfl, h1⟩
        replace HB := hide (below_next HB.out h1)
        replace H7 := hide (H7.out.below h1)
        replace HP := hide (HP.out.below h1)
        replace H8 := hide (H8.out.below h1)
        clear h1 HC2 z0 z1 z2 z3 zl HRD H9 HQ
        by_cases he1 : e1 = 0
        · by_cases he2 : e2 = 0
          · subst he1 he2
            have hsh := nest_same d p width (by omega) s t HR1.out HR2.out
            have hts : (⟨(shift p s.data.toList).toArray⟩ : ByteArray) = t := by rw [← hsh]
            have HTS := hide hts
            have hsz : s.size ≤ 65536 := rend_size HR1.out
            have HN0 := hide (show NsRel w6 s p 0 (.slice none 0 0) w6 from ⟨⟨[], Buf.start w6, rfl, Nat.le_refl _⟩, Nat.zero_le _⟩)
            clear hsh hts
            go_wp2_with fail
            go_loopg [14, 15] s.size (fun u v14 v15 wr => ∃ k : Nat, Hid (u = s.size - k) ∧ v15 = .int .i64 (k : Int) ∧ Hid (NsRel w6 s p k v14 wr))
            case atStart => exact ⟨0, rfl, rfl, HN0⟩
            case round =>
              obtain ⟨k, hm, rfl, hr⟩ := hrel
              obtain ⟨acc, hb, hpp, hl⟩ := hr.out.buf
              have hle := hr.out.le
              have HQ := hide hb
              by_cases hk : k < s.size
              · have hki : (k : Int) < (s.size : Int) := by omega
                have HPP := hide hpp
                clear hb hpp
                obtain ⟨c, hc⟩ : ∃ c, s[k]'hk = c := ⟨_, rfl⟩
                have HC := hide hc
                go_wp2_with (at_builtin; refine wpList_append_own _ rfl _ _ 36 rfl w6.heap.size 5 i0 (.int .u8 0) 1 1 Try.underlying36 hi hz0 hz1 hz2 rfl (by decide) _ _ _ rfl (HQ.out.own.alloc _) ⟨wr.heap.size, 0, none⟩ 1 1 [_] rfl rfl (cell_one_new _ _ _) ?c2 ?c3 ?c4 ?c5 ?_)
                case c2 => first | (intro x hx; simp at hx; subst hx; rfl) | rfl
                case c3 => unfold maxLen; (try simp only [List.length_append, List.length_cons, List.length_nil]); omega
                case c4 => (try simp only [List.length_append, List.length_cons, List.length_nil]); omega
                case c5 => have := HQ.out.below.size; simp; omega
                intro v' w7 hown' hgrow _
                have HT0 := hide (NsRel.into hk HC.out HPP.out hl (HQ.out.push1 c hown' hgrow (by simp) rfl))
                clear hown' hgrow HQ HPP
                go_wp2_with fail
                go_loopg [14, 16] p (fun u v14 v16 wr => ∃ j : Nat, Hid (u = p - j) ∧ v16 = .int .i64 (j : Int) ∧ Hid (c ≠ 10 → j = 0) ∧ Hid (NtRel w6 s p k j c v14 wr))
                case atStart => exact ⟨0, rfl, rfl, fun _ => rfl, HT0⟩
                case round =>
                  obtain ⟨j, hmj, rfl, hj0, hrj⟩ := hrel
                  have hjle := hrj.out.le
                  by_cases hc10 : c = 10
                  · by_cases hjp : j < p
                    · subst hc10
                      have hji : (j : Int) < (p : Int) := by omega
                      obtain ⟨acc2, hb2, hp2, hl2'⟩ := hrj.out.buf
                      have HQ2 := hide hb2
                      have HP2 := hide hp2
                      clear hb2 hp2
                      go_wp2_with (at_builtin; refine wpList_append_own _ rfl _ _ 36 rfl w6.heap.size 5 i0 (.int .u8 0) 1 1 Try.underlying36 hi hz0 hz1 hz2 rfl (by decide) _ _ _ rfl (HQ2.out.own.alloc _) ⟨wr.heap.size, 0, none⟩ 1 1 [_] rfl rfl (cell_one_new _ _ _) ?d2 ?d3 ?d4 ?d5 ?_)
                      case d2 => first | (intro x hx; simp at hx; subst hx; rfl) | rfl
                      case d3 => unfold maxLen; (try simp only [List.length_append, List.length_cons, List.length_nil]); omega
                      case d4 => (try simp only [List.length_append, List.length_cons, List.length_nil]); omega
                      case d5 => have := HQ2.out.below.size; simp; omega
                      intro v' w8 hown' hgrow _
                      have HQ3 := hide (NtRel.more hjp HP2.out hl2' (HQ2.out.push1 32 hown' hgrow (by simp) rfl))
                      clear hown' hgrow
                      go_wp2_with fail
                      go_roundg (p - (j + 1))
                      case measure => rw [hmj.out]; omega
                      case rel => exact ⟨j + 1, rfl, rfl, fun h => absurd rfl h, HQ3⟩
                    · have hji : ¬ (j : Int) < (p : Int) := by omega
                      have HOUT := hide (hrj.out.out hk hp8 (Or.inr (by omega)) hj0.out)
                      go_wp2_with fail
                      go_roundg (s.size - (k + 1))
                      case measure => rw [hm.out]; omega
                      case rel => exact ⟨k + 1, rfl, rfl, HOUT⟩
                  · have m1 : ((c.toNat : Int) == 10) = false := byte_ne (x := 10) hc10
                    have HOUT := hide (hrj.out.out hk hp8 (Or.inl hc10) hj0.out)
                    have hj00 : j = 0 := hj0.out hc10
                    subst hj00
                    have hji : ((0 : Nat) : Int) < (p : Int) := by omega
                    go_wp2_with fail
                    go_roundg (s.size - (k + 1))
                    case measure => rw [hm.out]; omega
                    case rel => exact ⟨k + 1, rfl, rfl, HOUT⟩
              · obtain rfl : k = s.size := by omega
                have hki : ¬ (s.size : Int) < (s.size : Int) := by omega
                have hdr : s.data.toList.drop s.size = [] := List.drop_eq_nil_of_le (by rw [size_len]; omega)
                rw [hdr, show shift p [] = [] from rfl, List.append_nil] at hpp
                subst hpp
                obtain ⟨a9, cap, rfl, _⟩ := hb.shape
                have hbl := hb.below
                have hcv := fun W (h : Below wr.heap.size wr W) => (Buf.str (w := w6) ⟨own_below hb.own h, hbl.trans (h.mono hbl.size)⟩ : (shift p s.data.toList).length = _ ∧ (convert 36 9 (.slice a9 (shift p s.data.toList).length cap)).run Try.prog W = _).2
                have HCV := hide hcv
                replace HB := hide (below_next HB.out hbl)
                replace H7 := hide (H7.out.below hbl)
                replace HP := hide (HP.out.below hbl)
                replace H8 := hide (H8.out.below hbl)
                obtain ⟨m2, hm2⟩ : ∃ m, (shift p s.data.toList).length = m := ⟨_, rfl⟩
                rw [hm2] at HCV ⊢
                rw [HTS.out] at HCV
                clear hcv hb HQ hr hl hbl HN0
                obtain ⟨n0, hn0⟩ : ∃ x, w1.heap.size = x := ⟨_, rfl⟩
                rw [hn0] at H7 HP H8 ⊢
                clear hn0
                have HS := hide (fun (W : World) (h : Below wr.heap.size wr W) => (show Below wr.heap.size wr W ∧ (convert 36 9 (.slice a9 m2 cap)).run Try.prog W = .ok (.string t) W ∧ W.cell? ⟨n0, 0, none⟩ = some (.int .i64 3) ∧ W.cell? ⟨n0, 1, none⟩ = some (.string emptyB) ∧ W.cell? ⟨n0, 2, none⟩ = some (.int .i64 0) ∧ W.cell? ⟨n0, 3, none⟩ = some (.slice none 0 0) ∧ W.cell? ⟨n0 + 2, 3, none⟩ = some (.slice (some ⟨n0 + 1, 0, none⟩) 2 2) ∧ W.cell? ⟨n0 + 1, 0, none⟩ = some (.int .i64 3) ∧ W.cell? ⟨n0 + 1, 1, none⟩ = some (.string emptyB) ∧ W.cell? ⟨n0 + 1, 2, none⟩ = some (.int .i64 0) ∧ W.cell? ⟨n0 + 1, 3, none⟩ = some (.slice none 0 0) from
                  have p := H7.out.below h
                  have q := HP.out.below h
                  have r := H8.out.below h
                  ⟨h, HCV.out W h, p.cell 0, p.cell 1, p.cell 2, p.cell 3, r.cell 3, q.cell 0, q.cell 1, q.cell 2, q.cell 3⟩))
                have HSN := hide (fun (W W' : World) (h : Below wr.heap.size wr W) (h' : Below W.heap.size W W') => HS.out W' (h.trans (h'.mono h.size)))
                have hd := HS.out wr.drew (Below.drew (Below.refl _ _))
                clear H7 HP H8 HCV HT HTS
                go_upto_region 22 with fail
                go_region_held3 (fun W => Below wr.heap.size wr W ∧ (convert 36 9 (.slice a9 m2 cap)).run Try.prog W = .ok (.string t) W ∧ W.cell? ⟨n0, 0, none⟩ = some (.int .i64 3) ∧ W.cell? ⟨n0, 1, none⟩ = some (.string emptyB) ∧ W.cell? ⟨n0, 2, none⟩ = some (.int .i64 0) ∧ W.cell? ⟨n0, 3, none⟩ = some (.slice none 0 0) ∧ W.cell? ⟨n0 + 2, 3, none⟩ = some (.slice (some ⟨n0 + 1, 0, none⟩) 2 2) ∧ W.cell? ⟨n0 + 1, 0, none⟩ = some (.int .i64 3) ∧ W.cell? ⟨n0 + 1, 1, none⟩ = some (.string emptyB) ∧ W.cell? ⟨n0 + 1, 2, none⟩ = some (.int .i64 0) ∧ W.cell? ⟨n0 + 1, 3, none⟩ = some (.slice none 0 0))
                  (first | exact hd | exact HSN.out _ _ (And.left (by assumption)) hb9)
                  (first
                    | (go_at_call 10; refine (HA.out _).mono ?_; rintro e w9 ⟨rfl, hb9⟩)
                    | (go_at_call 15; refine (same_hard _).mono ?_; rintro e w10 ⟨rfl, hb9⟩))
                have hfin : Below w.heap.size w w10 := HB.out.trans (Below.mono (And.left (by assumption)) HB.out.size)
                go_wp2_with fail
                go_ret
                exact ⟨rfl, hfin⟩
          · have m1 : (e2 == 0) = false := by rw [beq_eq_false_iff_ne]; exact he2
            have m2 : (e2 != 0) = true := by rw [bne, m1]; rfl
            subst he1
            go_wp2_with fail
            refine (HA.out _).mono ?_
            rintro e w7 ⟨rfl, h1⟩
            replace HB := hide (below_next HB.out h1)
            clear h1
            go_wp2_with fail
            go_ret
            exact ⟨rfl, HB.out⟩
        · have m1 : (e1 == 0) = false := by rw [beq_eq_false_iff_ne]; exact he1
          have m2 : (e1 != 0) = true := by rw [bne, m1]; rfl
          go_wp2_with fail
          refine (HA.out _).mono ?_
          rintro e w7 ⟨rfl, h1⟩
          replace HB := hide (below_next HB.out h1)
          clear h1
          go_wp2_with fail
          go_ret
          exact ⟨rfl, HB.out⟩
end Go.Proofs.Ytcmhlfnmjpmjhaa
