/- The walk of the reader's method term: names with kids. -/
import Derived.Test.YtfndldfnlncabaaTermD
namespace Go.Proofs.Ytfndldfnlncabaa
set_option linter.unnecessarySimpa false
set_option linter.deprecated false
open Go.RowKit
set_option linter.unusedVariables false
set_option linter.unusedSimpArgs false

theorem RKo.weakG {ok ok' : Nat → Prop} {w : World} (hk : ∀ k, ok k → ok' k) {a : Option Addr} {ks : List Tm} (h : RKo ok w a ks) : RKo ok' w a ks :=
  ⟨h.1, fun hn => by
    obtain ⟨b, o, e, h1, h2⟩ := h.2 hn
    exact ⟨b, o, e, hk b h1, h2.1, RTos.weak hk h2.2⟩⟩

set_option maxHeartbeats 2500000 in
set_option maxRecDepth 100000 in
theorem term_list_bad (s : ByteArray) (g p : Nat) (w : World) (m : Int) (hm : (m == 0) = false) (hm1 : 0 ≤ m) (hm2 : m ≤ 200) (hs : s.size ≤ 65536) (hp : p ≤ s.size) (hr : Rd w g s p) (r : List UInt8) (c : UInt8) (HC : greatB c.toNat = true) (nm l : List UInt8) (hN : nameL r = .ok nm l) (n : Nat) (hmn : m - 1 = (n : Int)) (ih : TermOk s n) (r3 : List UInt8) (hK : skipL l = 40 :: r3) (k : Nat) (code : Int) (hL : listsL (termL n) 41 false r3 = .bad k code) (hP : peekL (s.data.toList.drop p) = .ok c r) :
    Calls Try.prog 40 #[.pointer (some ⟨g, 0, none⟩), .int .i64 m] w fun e w' => TermPost g s w.heap.size (.bad k code) e w' ∧ Fr g w w' := by
  have HP := hide (peek_any g s p (res0 w) hs hp hr.allocS)
  have HN := hide hr.lt
  have hsuf : r <:+ s.data.toList := (peekL_suffix hP).trans (List.drop_suffix _ _)
  have hr0 : 0 < r.length := by obtain ⟨_, r', e3⟩ := peekL_ok hP; rw [e3]; simp
  have hle := hsuf.length_le
  rw [size_len] at hle
  have hdr : s.data.toList.drop (s.size - r.length) = r := by have := drop_suffix hsuf; rw [size_len] at this; exact this
  rw [hP] at HP
  obtain ⟨q, hq⟩ : ∃ q, s.size - r.length = q := ⟨_, rfl⟩
  rw [hq] at hdr
  have hqi : (q : Int) ≤ 65536 := by omega
  have HHP := hide hP
  clear hP
  have k34 : ¬ (c.toNat : Int) = 34 := by have := HC; simp [greatB] at this; omega
  have k91 : ¬ (c.toNat : Int) = 91 := by have := HC; simp [greatB] at this; omega
  have k45 : ¬ (c.toNat : Int) = 45 := by have := HC; simp [greatB] at this; omega
  have k63 : ¬ (c.toNat : Int) = 63 := by have := HC; simp [greatB] at this; omega
  have n34 : ((c.toNat : Int) == 34) = false := byte_ne (x := 34) (by rintro rfl; revert HC; decide)
  have n91 : ((c.toNat : Int) == 91) = false := byte_ne (x := 91) (by rintro rfl; revert HC; decide)
  have n45 : ((c.toNat : Int) == 45) = false := byte_ne (x := 45) (by rintro rfl; revert HC; decide)
  have n63 : ((c.toNat : Int) == 63) = false := byte_ne (x := 63) (by rintro rfl; revert HC; decide)
  have b34 : ((c.toNat : Int) != 34) = true := by simpa using k34
  have b91 : ((c.toNat : Int) != 91) = true := by simpa using k91
  have b45 : ((c.toNat : Int) != 45) = true := by simpa using k45
  have b63 : ((c.toNat : Int) != 63) = true := by simpa using k63
  have l65 : decide ((c.toNat : Int) < 65) = false := by have := HC; simp [greatB] at this; exact decide_eq_false (by omega)
  have l90 : decide ((90 : Int) < (c.toNat : Int)) = false := by have := HC; simp [greatB] at this; exact decide_eq_false (by omega)
  clear hr
  go_enter Try.func40, Try.ntmps40
  go_wp2_with fail
  change Calls Try.prog 54 _ (res0 w) _
  refine HP.out.mono ?_
  rintro e1 w1 ⟨⟨rfl, hr1⟩, hf1⟩
  rw [hq] at hr1
  have HS := hide (Start.of HN.out hr1 hf1)
  have c1 := hr1.cell1
  have z1 := hr1.free1
  have hlt := hr1.lt
  have hne := HS.out.ne
  have hsz := HS.out.blk.lt
  clear hr1 hf1 HP
  have HQ := hide (name_any g s q w1 hs (by omega) HS.out.rd)
  rw [hdr] at HQ
  rw [hN] at HQ
  have hnm := (nameL_ok hN).2
  have hsuf2 : l <:+ s.data.toList := (nameL_ok hN).1.trans hsuf
  have hle2 := hsuf2.length_le
  rw [size_len] at hle2
  have hdr2 : s.data.toList.drop (s.size - l.length) = l := by have := drop_suffix hsuf2; rw [size_len] at this; exact this
  have hll : l.length ≤ r.length := (nameL_ok hN).1.length_le
  obtain ⟨q2, hq2⟩ : ∃ q2, s.size - l.length = q2 := ⟨_, rfl⟩
  rw [hq2] at hdr2
  go_wp2_with fail
  refine HQ.out.mono ?_
  rintro e2 w2 ⟨⟨rfl, hr2⟩, hf2⟩
  rw [hq2] at hr2
  have HR2 := hide hr2
  have HF2 := hide hf2
  have HB2 := hide (show Blk w2 w.heap.size #[.int .i64 0, .string emptyB, .slice none 0 0, .slice none 0 0] 25 from HS.out.blk.keep (ok := fun k => k ≠ g) (hf2.keep fun k hk => hk) (by show _ ≠ _; omega))
  have hlt2 := hr2.lt
  have hsz2 := HB2.out.lt
  have HK := hide (skip_any g s q2 (nameB w2 nm).drew hs (by omega) (Rd.drewS hr2.allocS))
  rw [hdr2] at HK
  clear hr2 hf2 c1 z1 hlt hsz
  go_upto_region 18 with fail
  have hsuf3 : (40 :: r3) <:+ s.data.toList := by rw [← hK]; exact (skipL_suffix l).trans hsuf2
  have hl3 : (40 :: r3).length ≤ l.length := by rw [← hK]; exact (skipL_suffix l).length_le
  have hdr3 : s.data.toList.drop (s.size - (40 :: r3).length) = 40 :: r3 := by have := drop_suffix hsuf3; rw [size_len] at this; exact this
  rw [hK] at HK
  simp only [List.isEmpty_cons, Bool.not_false] at HK
  have hpos : 0 < (40 :: r3).length := by simp
  generalize hq3 : s.size - (40 :: r3).length = q3 at HK hdr3
  have hqs3 : q3 < s.size := by omega
  have hd : s[q3]'hqs3 = 40 := by
    have h := hdr3
    rw [drop_at s q3 hqs3] at h
    injection h
  have hq3i : (q3 : Int) < (s.size : Int) := by omega
  have hq3j : (q3 : Int) ≤ 65536 := by omega
  have hm3 : -9223372036854775808 ≤ m - 1 ∧ m - 1 ≤ 9223372036854775807 := by omega
  have hdr4 : s.data.toList.drop (q3 + 1) = r3 := by rw [← List.drop_drop, hdr3]; rfl
  refine wp_region_any (by kernel_rfl) ?_
  change wpAny _ _ _ _ _ _ _ (World.drew _)
  refine wpAny_take (i := 0) (v := .pointer (some ⟨g, 0, none⟩)) rfl (by kernel_rfl) (by kernel_rfl) (by kernel_rfl) (fun _ _ _ h => h) (Or.inl ⟨by kernel_rfl, by intro w; go_simp⟩) ?_
  refine wpAny_ready (rs := [1]) (by kernel_rfl) (by simp) ?_
  refine AllReady.cons rfl (fun K hK => ?_) AllReady.nil
  go_simp
  go_wp2_with (go_at_call 41; refine HK.out.mono ?_; rintro e5 w5 ⟨rfl, hr5, hf5⟩)
  have HR5 := hide hr5
  have HF5 := hide (show Fr g w w5 from (HS.out.fr.trans HF2.out).trans (Fr.trans (Fr.drewS (Fr.allocS (Fr.refl _ _))) hf5))
  have HB5 := hide (show Blk w5 w.heap.size #[.int .i64 0, .string emptyB, .slice none 0 0, .slice none 0 0] 25 from Blk.keep (w := (nameB w2 nm).drew) (w' := w5) (HB2.out.alloc _) (ok := fun k => k ≠ g) (hf5.keep fun k hk => hk) (by show _ ≠ _; omega))
  have HN5 := hide (show Blk w5 w2.heap.size #[.int .i64 1, .string ⟨nm.toArray⟩, .slice none 0 0, .slice none 0 0] 25 from Blk.keep (w := (nameB w2 nm).drew) (w' := w5) (Blk.new w2 _ _) (ok := fun k => k ≠ g) (hf5.keep fun k hk => hk) (by show _ ≠ _; omega))
  have hlt5 := hr5.lt
  have hsz5 := HB5.out.lt
  have hst5 := HN5.out.lt
  have e0 := hr5.cell0
  have e1 := hr5.cell1
  have ez1 := hr5.free1
  clear hr5 hf5
  have d0 := (HB5.out).cell 0
  have dz0 := (HB5.out).free 0
  have d1 := (HB5.out).cell 1
  have dz1 := (HB5.out).free 1
  have d2 := (HB5.out).cell 2
  have dz2 := (HB5.out).free 2
  have d3 := (HB5.out).cell 3
  have dz3 := (HB5.out).free 3
  have t0 := (HN5.out).cell 0
  have tz0 := (HN5.out).free 0
  have t1 := (HN5.out).cell 1
  have tz1 := (HN5.out).free 1
  have t2 := (HN5.out).cell 2
  have tz2 := (HN5.out).free 2
  have t3 := (HN5.out).cell 3
  have tz3 := (HN5.out).free 3
  refine wpAny_take (i := 2) (v := .bool true) rfl (by kernel_rfl) (by kernel_rfl) (by kernel_rfl) (fun _ _ _ h => h) (Or.inl ⟨by kernel_rfl, by intro w; go_simp⟩) ?_
  refine wpAny_take (i := 3) (v := .pointer (some ⟨g, 0, none⟩)) rfl (by kernel_rfl) (by kernel_rfl) (by kernel_rfl) (fun _ _ _ h => h) (Or.inl ⟨by kernel_rfl, by intro w; go_simp⟩) ?_
  refine wpAny_take (i := 7) (v := .pointer (some ⟨g, 0, none⟩)) rfl (by kernel_rfl) (by kernel_rfl) (by kernel_rfl) (fun _ _ _ h => h) (Or.inl ⟨by kernel_rfl, by intro w; go_simp⟩) ?_
  refine wpAny_take (i := 4) (v := .pointer (some ⟨g, 0, none⟩)) rfl (by kernel_rfl) (by kernel_rfl) (by kernel_rfl) (fun _ _ _ h => h) (Or.inl ⟨by kernel_rfl, by intro w; go_simp⟩) ?_
  refine wpAny_take (i := 8) (v := .pointer (some ⟨g, 0, none⟩)) rfl (by kernel_rfl) (by kernel_rfl) (by kernel_rfl) (fun _ _ _ h => h) (Or.inl ⟨by kernel_rfl, by intro w; go_simp⟩) ?_
  refine wpAny_take (i := 5) (v := .pointer (some ⟨g, 0, none⟩)) rfl (by kernel_rfl) (by kernel_rfl) (by kernel_rfl) (fun _ _ _ h => h) (Or.inl ⟨by kernel_rfl, by intro w; go_simp⟩) ?_
  refine wpAny_take (i := 9) (v := .pointer (some ⟨g, 1, none⟩)) rfl (by kernel_rfl) (by kernel_rfl) (by kernel_rfl) (fun _ _ _ h => h) (Or.inl ⟨by kernel_rfl, by intro w; go_simp⟩) ?_
  refine wpAny_ready (rs := [6, 10]) (by kernel_rfl) (by simp) ?_
  refine AllReady.cons rfl (fun K hK => ?_) (AllReady.cons rfl (fun K hK => ?_) AllReady.nil)
  · go_simp
    refine hK _ _ ?_
    clear hK K
    refine wpAny_ready (rs := [10]) (by kernel_rfl) (by simp) ?_
    refine AllReady.cons rfl (fun K hK => ?_) AllReady.nil
    go_simp
    refine hK _ _ ?_
    clear hK K
    refine wpAny_ready (rs := [11]) (by kernel_rfl) (by simp) ?_
    refine AllReady.cons rfl (fun K hK => ?_) AllReady.nil
    go_simp
    refine hK _ _ ?_
    clear hK K
    refine wpAny_take (i := 12) (v := .bool true) rfl (by kernel_rfl) (by kernel_rfl) (by kernel_rfl) (fun _ _ _ h => h) (Or.inl ⟨by kernel_rfl, by intro w; go_simp⟩) ?_
    refine wpAny_take (i := 13) (v := .bool true) rfl (by kernel_rfl) (by kernel_rfl) (by kernel_rfl) (fun _ _ _ h => h) (Or.inl ⟨by kernel_rfl, by intro w; go_simp⟩) ?_
    refine wpAny_done (by kernel_rfl) ?_ _
    simp only [Act.put, List.getElem_toArray, List.getElem_cons_succ, List.getElem_cons_zero, List.setIfInBounds_toArray, List.set_cons_zero, List.set_cons_succ]
    have HL := hide (rlist_any s n ih hs g q3 w5 41 false (by omega) HR5.out)
    rw [hdr4, hL] at HL
    go_wp2_with fail
    refine HL.out.mono ?_
    rintro e6 w6 ⟨rfl, hf6⟩
    unfold faultP
    go_wp2_with fail
    exact ⟨rfl, rfl, HF5.out.trans hf6⟩
  · go_simp
    refine hK _ _ ?_
    clear hK K
    refine wpAny_ready (rs := [6]) (by kernel_rfl) (by simp) ?_
    refine AllReady.cons rfl (fun K hK => ?_) AllReady.nil
    go_simp
    refine hK _ _ ?_
    clear hK K
    refine wpAny_ready (rs := [11]) (by kernel_rfl) (by simp) ?_
    refine AllReady.cons rfl (fun K hK => ?_) AllReady.nil
    go_simp
    refine hK _ _ ?_
    clear hK K
    refine wpAny_take (i := 12) (v := .bool true) rfl (by kernel_rfl) (by kernel_rfl) (by kernel_rfl) (fun _ _ _ h => h) (Or.inl ⟨by kernel_rfl, by intro w; go_simp⟩) ?_
    refine wpAny_take (i := 13) (v := .bool true) rfl (by kernel_rfl) (by kernel_rfl) (by kernel_rfl) (fun _ _ _ h => h) (Or.inl ⟨by kernel_rfl, by intro w; go_simp⟩) ?_
    refine wpAny_done (by kernel_rfl) ?_ _
    simp only [Act.put, List.getElem_toArray, List.getElem_cons_succ, List.getElem_cons_zero, List.setIfInBounds_toArray, List.set_cons_zero, List.set_cons_succ]
    have HL := hide (rlist_any s n ih hs g q3 w5 41 false (by omega) HR5.out)
    rw [hdr4, hL] at HL
    go_wp2_with fail
    refine HL.out.mono ?_
    rintro e6 w6 ⟨rfl, hf6⟩
    unfold faultP
    go_wp2_with fail
    exact ⟨rfl, rfl, HF5.out.trans hf6⟩

set_option maxHeartbeats 2500000 in
set_option maxRecDepth 100000 in
theorem term_list_ok (s : ByteArray) (g p : Nat) (w : World) (m : Int) (hm : (m == 0) = false) (hm1 : 0 ≤ m) (hm2 : m ≤ 200) (hs : s.size ≤ 65536) (hp : p ≤ s.size) (hr : Rd w g s p) (r : List UInt8) (c : UInt8) (HC : greatB c.toNat = true) (nm l : List UInt8) (hN : nameL r = .ok nm l) (n : Nat) (hmn : m - 1 = (n : Int)) (ih : TermOk s n) (r3 : List UInt8) (hK : skipL l = 40 :: r3) (ks : List Tm) (r4 : List UInt8) (hL : listsL (termL n) 41 false r3 = .ok ks r4) (hP : peekL (s.data.toList.drop p) = .ok c r) :
    Calls Try.prog 40 #[.pointer (some ⟨g, 0, none⟩), .int .i64 m] w fun e w' => TermPost g s w.heap.size (.ok (.mk 1 ⟨nm.toArray⟩ [] ks) r4) e w' ∧ Fr g w w' := by
  have HP := hide (peek_any g s p (res0 w) hs hp hr.allocS)
  have HN := hide hr.lt
  have hsuf : r <:+ s.data.toList := (peekL_suffix hP).trans (List.drop_suffix _ _)
  have hr0 : 0 < r.length := by obtain ⟨_, r', e3⟩ := peekL_ok hP; rw [e3]; simp
  have hle := hsuf.length_le
  rw [size_len] at hle
  have hdr : s.data.toList.drop (s.size - r.length) = r := by have := drop_suffix hsuf; rw [size_len] at this; exact this
  rw [hP] at HP
  obtain ⟨q, hq⟩ : ∃ q, s.size - r.length = q := ⟨_, rfl⟩
  rw [hq] at hdr
  have hqi : (q : Int) ≤ 65536 := by omega
  have HHP := hide hP
  clear hP
  have k34 : ¬ (c.toNat : Int) = 34 := by have := HC; simp [greatB] at this; omega
  have k91 : ¬ (c.toNat : Int) = 91 := by have := HC; simp [greatB] at this; omega
  have k45 : ¬ (c.toNat : Int) = 45 := by have := HC; simp [greatB] at this; omega
  have k63 : ¬ (c.toNat : Int) = 63 := by have := HC; simp [greatB] at this; omega
  have n34 : ((c.toNat : Int) == 34) = false := byte_ne (x := 34) (by rintro rfl; revert HC; decide)
  have n91 : ((c.toNat : Int) == 91) = false := byte_ne (x := 91) (by rintro rfl; revert HC; decide)
  have n45 : ((c.toNat : Int) == 45) = false := byte_ne (x := 45) (by rintro rfl; revert HC; decide)
  have n63 : ((c.toNat : Int) == 63) = false := byte_ne (x := 63) (by rintro rfl; revert HC; decide)
  have b34 : ((c.toNat : Int) != 34) = true := by simpa using k34
  have b91 : ((c.toNat : Int) != 91) = true := by simpa using k91
  have b45 : ((c.toNat : Int) != 45) = true := by simpa using k45
  have b63 : ((c.toNat : Int) != 63) = true := by simpa using k63
  have l65 : decide ((c.toNat : Int) < 65) = false := by have := HC; simp [greatB] at this; exact decide_eq_false (by omega)
  have l90 : decide ((90 : Int) < (c.toNat : Int)) = false := by have := HC; simp [greatB] at this; exact decide_eq_false (by omega)
  clear hr
  go_enter Try.func40, Try.ntmps40
  go_wp2_with fail
  change Calls Try.prog 54 _ (res0 w) _
  refine HP.out.mono ?_
  rintro e1 w1 ⟨⟨rfl, hr1⟩, hf1⟩
  rw [hq] at hr1
  have HS := hide (Start.of HN.out hr1 hf1)
  have c1 := hr1.cell1
  have z1 := hr1.free1
  have hlt := hr1.lt
  have hne := HS.out.ne
  have hsz := HS.out.blk.lt
  clear hr1 hf1 HP
  have HQ := hide (name_any g s q w1 hs (by omega) HS.out.rd)
  rw [hdr] at HQ
  rw [hN] at HQ
  have hnm := (nameL_ok hN).2
  have hsuf2 : l <:+ s.data.toList := (nameL_ok hN).1.trans hsuf
  have hle2 := hsuf2.length_le
  rw [size_len] at hle2
  have hdr2 : s.data.toList.drop (s.size - l.length) = l := by have := drop_suffix hsuf2; rw [size_len] at this; exact this
  have hll : l.length ≤ r.length := (nameL_ok hN).1.length_le
  obtain ⟨q2, hq2⟩ : ∃ q2, s.size - l.length = q2 := ⟨_, rfl⟩
  rw [hq2] at hdr2
  go_wp2_with fail
  refine HQ.out.mono ?_
  rintro e2 w2 ⟨⟨rfl, hr2⟩, hf2⟩
  rw [hq2] at hr2
  have HR2 := hide hr2
  have HF2 := hide hf2
  have HB2 := hide (show Blk w2 w.heap.size #[.int .i64 0, .string emptyB, .slice none 0 0, .slice none 0 0] 25 from HS.out.blk.keep (ok := fun k => k ≠ g) (hf2.keep fun k hk => hk) (by show _ ≠ _; omega))
  have hlt2 := hr2.lt
  have hsz2 := HB2.out.lt
  have HK := hide (skip_any g s q2 (nameB w2 nm).drew hs (by omega) (Rd.drewS hr2.allocS))
  rw [hdr2] at HK
  clear hr2 hf2 c1 z1 hlt hsz
  go_upto_region 18 with fail
  have hsuf3 : (40 :: r3) <:+ s.data.toList := by rw [← hK]; exact (skipL_suffix l).trans hsuf2
  have hl3 : (40 :: r3).length ≤ l.length := by rw [← hK]; exact (skipL_suffix l).length_le
  have hdr3 : s.data.toList.drop (s.size - (40 :: r3).length) = 40 :: r3 := by have := drop_suffix hsuf3; rw [size_len] at this; exact this
  rw [hK] at HK
  simp only [List.isEmpty_cons, Bool.not_false] at HK
  have hpos : 0 < (40 :: r3).length := by simp
  generalize hq3 : s.size - (40 :: r3).length = q3 at HK hdr3
  have hqs3 : q3 < s.size := by omega
  have hd : s[q3]'hqs3 = 40 := by
    have h := hdr3
    rw [drop_at s q3 hqs3] at h
    injection h
  have hq3i : (q3 : Int) < (s.size : Int) := by omega
  have hq3j : (q3 : Int) ≤ 65536 := by omega
  have hm3 : -9223372036854775808 ≤ m - 1 ∧ m - 1 ≤ 9223372036854775807 := by omega
  have hdr4 : s.data.toList.drop (q3 + 1) = r3 := by rw [← List.drop_drop, hdr3]; rfl
  refine wp_region_any (by kernel_rfl) ?_
  change wpAny _ _ _ _ _ _ _ (World.drew _)
  refine wpAny_take (i := 0) (v := .pointer (some ⟨g, 0, none⟩)) rfl (by kernel_rfl) (by kernel_rfl) (by kernel_rfl) (fun _ _ _ h => h) (Or.inl ⟨by kernel_rfl, by intro w; go_simp⟩) ?_
  refine wpAny_ready (rs := [1]) (by kernel_rfl) (by simp) ?_
  refine AllReady.cons rfl (fun K hK => ?_) AllReady.nil
  go_simp
  go_wp2_with (go_at_call 41; refine HK.out.mono ?_; rintro e5 w5 ⟨rfl, hr5, hf5⟩)
  have HR5 := hide hr5
  have HF5 := hide (show Fr g w w5 from (HS.out.fr.trans HF2.out).trans (Fr.trans (Fr.drewS (Fr.allocS (Fr.refl _ _))) hf5))
  have HB5 := hide (show Blk w5 w.heap.size #[.int .i64 0, .string emptyB, .slice none 0 0, .slice none 0 0] 25 from Blk.keep (w := (nameB w2 nm).drew) (w' := w5) (HB2.out.alloc _) (ok := fun k => k ≠ g) (hf5.keep fun k hk => hk) (by show _ ≠ _; omega))
  have HN5 := hide (show Blk w5 w2.heap.size #[.int .i64 1, .string ⟨nm.toArray⟩, .slice none 0 0, .slice none 0 0] 25 from Blk.keep (w := (nameB w2 nm).drew) (w' := w5) (Blk.new w2 _ _) (ok := fun k => k ≠ g) (hf5.keep fun k hk => hk) (by show _ ≠ _; omega))
  have hlt5 := hr5.lt
  have hsz5 := HB5.out.lt
  have hst5 := HN5.out.lt
  have e0 := hr5.cell0
  have e1 := hr5.cell1
  have ez1 := hr5.free1
  clear hr5 hf5
  have d0 := (HB5.out).cell 0
  have dz0 := (HB5.out).free 0
  have d1 := (HB5.out).cell 1
  have dz1 := (HB5.out).free 1
  have d2 := (HB5.out).cell 2
  have dz2 := (HB5.out).free 2
  have d3 := (HB5.out).cell 3
  have dz3 := (HB5.out).free 3
  have t0 := (HN5.out).cell 0
  have tz0 := (HN5.out).free 0
  have t1 := (HN5.out).cell 1
  have tz1 := (HN5.out).free 1
  have t2 := (HN5.out).cell 2
  have tz2 := (HN5.out).free 2
  have t3 := (HN5.out).cell 3
  have tz3 := (HN5.out).free 3
  refine wpAny_take (i := 2) (v := .bool true) rfl (by kernel_rfl) (by kernel_rfl) (by kernel_rfl) (fun _ _ _ h => h) (Or.inl ⟨by kernel_rfl, by intro w; go_simp⟩) ?_
  refine wpAny_take (i := 3) (v := .pointer (some ⟨g, 0, none⟩)) rfl (by kernel_rfl) (by kernel_rfl) (by kernel_rfl) (fun _ _ _ h => h) (Or.inl ⟨by kernel_rfl, by intro w; go_simp⟩) ?_
  refine wpAny_take (i := 7) (v := .pointer (some ⟨g, 0, none⟩)) rfl (by kernel_rfl) (by kernel_rfl) (by kernel_rfl) (fun _ _ _ h => h) (Or.inl ⟨by kernel_rfl, by intro w; go_simp⟩) ?_
  refine wpAny_take (i := 4) (v := .pointer (some ⟨g, 0, none⟩)) rfl (by kernel_rfl) (by kernel_rfl) (by kernel_rfl) (fun _ _ _ h => h) (Or.inl ⟨by kernel_rfl, by intro w; go_simp⟩) ?_
  refine wpAny_take (i := 8) (v := .pointer (some ⟨g, 0, none⟩)) rfl (by kernel_rfl) (by kernel_rfl) (by kernel_rfl) (fun _ _ _ h => h) (Or.inl ⟨by kernel_rfl, by intro w; go_simp⟩) ?_
  refine wpAny_take (i := 5) (v := .pointer (some ⟨g, 0, none⟩)) rfl (by kernel_rfl) (by kernel_rfl) (by kernel_rfl) (fun _ _ _ h => h) (Or.inl ⟨by kernel_rfl, by intro w; go_simp⟩) ?_
  refine wpAny_take (i := 9) (v := .pointer (some ⟨g, 1, none⟩)) rfl (by kernel_rfl) (by kernel_rfl) (by kernel_rfl) (fun _ _ _ h => h) (Or.inl ⟨by kernel_rfl, by intro w; go_simp⟩) ?_
  refine wpAny_ready (rs := [6, 10]) (by kernel_rfl) (by simp) ?_
  refine AllReady.cons rfl (fun K hK => ?_) (AllReady.cons rfl (fun K hK => ?_) AllReady.nil)
  · go_simp
    refine hK _ _ ?_
    clear hK K
    refine wpAny_ready (rs := [10]) (by kernel_rfl) (by simp) ?_
    refine AllReady.cons rfl (fun K hK => ?_) AllReady.nil
    go_simp
    refine hK _ _ ?_
    clear hK K
    refine wpAny_ready (rs := [11]) (by kernel_rfl) (by simp) ?_
    refine AllReady.cons rfl (fun K hK => ?_) AllReady.nil
    go_simp
    refine hK _ _ ?_
    clear hK K
    refine wpAny_take (i := 12) (v := .bool true) rfl (by kernel_rfl) (by kernel_rfl) (by kernel_rfl) (fun _ _ _ h => h) (Or.inl ⟨by kernel_rfl, by intro w; go_simp⟩) ?_
    refine wpAny_take (i := 13) (v := .bool true) rfl (by kernel_rfl) (by kernel_rfl) (by kernel_rfl) (fun _ _ _ h => h) (Or.inl ⟨by kernel_rfl, by intro w; go_simp⟩) ?_
    refine wpAny_done (by kernel_rfl) ?_ _
    simp only [Act.put, List.getElem_toArray, List.getElem_cons_succ, List.getElem_cons_zero, List.setIfInBounds_toArray, List.set_cons_zero, List.set_cons_succ]
    have HL := hide (rlist_any s n ih hs g q3 w5 41 false (by omega) HR5.out)
    rw [hdr4, hL] at HL
    go_wp2_with fail
    refine HL.out.mono ?_
    rintro e6 w6 ⟨⟨a6, cap6, rfl, hk6, hr6⟩, hf6⟩
    clear d0 d1 d2 d3 dz0 dz1 dz2 dz3 t0 t1 t2 t3 tz0 tz1 tz2 tz3 e0 e1 ez1
    have HX := hide hk6
    have HR6 := hide hr6
    have HF6 := hide hf6
    have HB6 := hide (HB5.out.keep (ok := fun k => k ≠ g) (hf6.keep fun k hk => hk) (by show _ ≠ _; omega))
    have HN6 := hide (HN5.out.keep (ok := fun k => k ≠ g) (hf6.keep fun k hk => hk) (by show _ ≠ _; omega))
    have hlt6 := hr6.lt
    have hsz6 := HB6.out.lt
    have hst6 := HN6.out.lt
    have hne6 : w2.heap.size ≠ w.heap.size := by omega
    clear hk6 hr6 hf6
    have d0 := (HB6.out).cell 0
    have dz0 := (HB6.out).free 0
    have d1 := (HB6.out).cell 1
    have dz1 := (HB6.out).free 1
    have d2 := (HB6.out).cell 2
    have dz2 := (HB6.out).free 2
    have d3 := (HB6.out).cell 3
    have dz3 := (HB6.out).free 3
    have t0 := (HN6.out).cell 0
    have tz0 := (HN6.out).free 0
    have t1 := (HN6.out).cell 1
    have tz1 := (HN6.out).free 1
    have t2 := (HN6.out).cell 2
    have tz2 := (HN6.out).free 2
    have t3 := (HN6.out).cell 3
    have tz3 := (HN6.out).free 3
    go_wp2_with fail
    exact ret40 rfl rfl (Blk.lay (HB6.out.setS hne6)) (term_end (Fr.setN (HF5.out.trans HF6.out) (by omega)) (HR6.out.setS (by omega)) hne (RTo.shut (by decide) (by show nm.toArray.size ≤ _; rw [List.size_toArray]; omega) RBo.nil (RKo.weakG (fun k hk => hk.1) (RKo.keep (ok := fun k => w.heap.size + 1 ≤ k ∧ k ≠ w2.heap.size) ((Keep.refl _ _).setS (fun h => h.2 rfl)) (RKo.weakG (fun k hk => ⟨by omega, by omega⟩) HX.out))) rfl rfl) rfl)
  · go_simp
    refine hK _ _ ?_
    clear hK K
    refine wpAny_ready (rs := [6]) (by kernel_rfl) (by simp) ?_
    refine AllReady.cons rfl (fun K hK => ?_) AllReady.nil
    go_simp
    refine hK _ _ ?_
    clear hK K
    refine wpAny_ready (rs := [11]) (by kernel_rfl) (by simp) ?_
    refine AllReady.cons rfl (fun K hK => ?_) AllReady.nil
    go_simp
    refine hK _ _ ?_
    clear hK K
    refine wpAny_take (i := 12) (v := .bool true) rfl (by kernel_rfl) (by kernel_rfl) (by kernel_rfl) (fun _ _ _ h => h) (Or.inl ⟨by kernel_rfl, by intro w; go_simp⟩) ?_
    refine wpAny_take (i := 13) (v := .bool true) rfl (by kernel_rfl) (by kernel_rfl) (by kernel_rfl) (fun _ _ _ h => h) (Or.inl ⟨by kernel_rfl, by intro w; go_simp⟩) ?_
    refine wpAny_done (by kernel_rfl) ?_ _
    simp only [Act.put, List.getElem_toArray, List.getElem_cons_succ, List.getElem_cons_zero, List.setIfInBounds_toArray, List.set_cons_zero, List.set_cons_succ]
    have HL := hide (rlist_any s n ih hs g q3 w5 41 false (by omega) HR5.out)
    rw [hdr4, hL] at HL
    go_wp2_with fail
    refine HL.out.mono ?_
    rintro e6 w6 ⟨⟨a6, cap6, rfl, hk6, hr6⟩, hf6⟩
    clear d0 d1 d2 d3 dz0 dz1 dz2 dz3 t0 t1 t2 t3 tz0 tz1 tz2 tz3 e0 e1 ez1
    have HX := hide hk6
    have HR6 := hide hr6
    have HF6 := hide hf6
    have HB6 := hide (HB5.out.keep (ok := fun k => k ≠ g) (hf6.keep fun k hk => hk) (by show _ ≠ _; omega))
    have HN6 := hide (HN5.out.keep (ok := fun k => k ≠ g) (hf6.keep fun k hk => hk) (by show _ ≠ _; omega))
    have hlt6 := hr6.lt
    have hsz6 := HB6.out.lt
    have hst6 := HN6.out.lt
    have hne6 : w2.heap.size ≠ w.heap.size := by omega
    clear hk6 hr6 hf6
    have d0 := (HB6.out).cell 0
    have dz0 := (HB6.out).free 0
    have d1 := (HB6.out).cell 1
    have dz1 := (HB6.out).free 1
    have d2 := (HB6.out).cell 2
    have dz2 := (HB6.out).free 2
    have d3 := (HB6.out).cell 3
    have dz3 := (HB6.out).free 3
    have t0 := (HN6.out).cell 0
    have tz0 := (HN6.out).free 0
    have t1 := (HN6.out).cell 1
    have tz1 := (HN6.out).free 1
    have t2 := (HN6.out).cell 2
    have tz2 := (HN6.out).free 2
    have t3 := (HN6.out).cell 3
    have tz3 := (HN6.out).free 3
    go_wp2_with fail
    exact ret40 rfl rfl (Blk.lay (HB6.out.setS hne6)) (term_end (Fr.setN (HF5.out.trans HF6.out) (by omega)) (HR6.out.setS (by omega)) hne (RTo.shut (by decide) (by show nm.toArray.size ≤ _; rw [List.size_toArray]; omega) RBo.nil (RKo.weakG (fun k hk => hk.1) (RKo.keep (ok := fun k => w.heap.size + 1 ≤ k ∧ k ≠ w2.heap.size) ((Keep.refl _ _).setS (fun h => h.2 rfl)) (RKo.weakG (fun k hk => ⟨by omega, by omega⟩) HX.out))) rfl rfl) rfl)

end Go.Proofs.Ytfndldfnlncabaa
