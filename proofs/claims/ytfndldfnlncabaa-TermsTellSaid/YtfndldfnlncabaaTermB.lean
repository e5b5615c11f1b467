/- The walk of the reader's method term: where it fails. -/
import Derived.Test.YtfndldfnlncabaaTermA
namespace Go.Proofs.Ytfndldfnlncabaa
set_option linter.unnecessarySimpa false
set_option linter.deprecated false
open Go.RowKit
set_option linter.unusedVariables false
set_option linter.unusedSimpArgs false

set_option maxHeartbeats 8000000 in
set_option maxRecDepth 100000 in
theorem term_bad (s : ByteArray) (g p : Nat) (w : World) (m : Int) (hm1 : 0 ≤ m) (hm2 : m ≤ 200) (hs : s.size ≤ 65536) (hp : p ≤ s.size) (hr : Rd w g s p) (k : Nat) (c : Int) (hP : peekL (s.data.toList.drop p) = .bad k c) :
    Calls Try.prog 40 #[.pointer (some ⟨g, 0, none⟩), .int .i64 m] w fun e w' => TermPost g s w.heap.size (.bad k c) e w' ∧ Fr g w w' := by
  have HP := hide (peek_any g s p (res0 w) hs hp hr.allocS)
  have HF0 := hide (show Fr g w (res0 w) from Fr.allocS (Fr.refl _ _))
  rw [hP] at HP
  clear hr hP
  go_enter Try.func40, Try.ntmps40
  go_wp2_with fail
  change Calls Try.prog 54 _ (res0 w) _
  refine HP.out.mono ?_
  rintro e1 w1 ⟨rfl, hf1⟩
  unfold faultP
  go_wp2_with fail
  exact ⟨rfl, rfl, HF0.out.trans hf1⟩

set_option maxHeartbeats 8000000 in
set_option maxRecDepth 100000 in
theorem term_unsign (s : ByteArray) (g p : Nat) (w : World) (m : Int) (hm1 : 0 ≤ m) (hm2 : m ≤ 200) (hs : s.size ≤ 65536) (hp : p ≤ s.size) (hr : Rd w g s p) (r : List UInt8) (c : UInt8) (HC : signB c = false) (hP : peekL (s.data.toList.drop p) = .ok c r) :
    Calls Try.prog 40 #[.pointer (some ⟨g, 0, none⟩), .int .i64 m] w fun e w' => TermPost g s w.heap.size (.bad r.length 11) e w' ∧ Fr g w w' := by
  have HP := hide (peek_any g s p (res0 w) hs hp hr.allocS)
  have HN := hide hr.lt
  have hsuf : r <:+ s.data.toList := (peekL_suffix hP).trans (List.drop_suffix _ _)
  have hr0 : 0 < r.length := by obtain ⟨_, r', e3⟩ := peekL_ok hP; rw [e3]; simp
  have hle := hsuf.length_le
  rw [size_len] at hle
  have hdr : s.data.toList.drop (s.size - r.length) = r := by have := drop_suffix hsuf; rw [size_len] at this; exact this
  rw [hP] at HP
  obtain ⟨q, hq⟩ : ∃ q, s.size - r.length = q := ⟨_, rfl⟩
  rw [hq] at hdr
  have hqi : (q : Int) ≤ 65536 := by omega
  have HHP := hide hP
  clear hP
  have hcs : c ≠ 34 ∧ c ≠ 91 ∧ c ≠ 45 ∧ c ≠ 63 ∧ greatB c.toNat = false := by simpa [signB, and_assoc] using HC
  have n34 : ((c.toNat : Int) == 34) = false := byte_ne hcs.1
  have n91 : ((c.toNat : Int) == 91) = false := byte_ne hcs.2.1
  have n45 : ((c.toNat : Int) == 45) = false := byte_ne hcs.2.2.1
  have n63 : ((c.toNat : Int) == 63) = false := byte_ne hcs.2.2.2.1
  have k34 : ¬ (c.toNat : Int) = 34 := by simpa using n34
  have k91 : ¬ (c.toNat : Int) = 91 := by simpa using n91
  have k45 : ¬ (c.toNat : Int) = 45 := by simpa using n45
  have k63 : ¬ (c.toNat : Int) = 63 := by simpa using n63
  have b34 : ((c.toNat : Int) != 34) = true := by simpa using k34
  have b91 : ((c.toNat : Int) != 91) = true := by simpa using k91
  have b45 : ((c.toNat : Int) != 45) = true := by simpa using k45
  have b63 : ((c.toNat : Int) != 63) = true := by simpa using k63
  have hg : (c.toNat : Int) < 65 ∨ (65 ≤ (c.toNat : Int) ∧ 90 < (c.toNat : Int)) := by have := hcs.2.2.2.2; simp [greatB] at this; omega
  clear hcs
  clear hr
  go_enter Try.func40, Try.ntmps40
  go_wp2_with fail
  change Calls Try.prog 54 _ (res0 w) _
  refine HP.out.mono ?_
  rintro e1 w1 ⟨⟨rfl, hr1⟩, hf1⟩
  rw [hq] at hr1
  have HS := hide (Start.of HN.out hr1 hf1)
  have c1 := hr1.cell1
  have z1 := hr1.free1
  have hlt := hr1.lt
  have hne := HS.out.ne
  have hsz := HS.out.blk.lt
  clear hr1 hf1 HP
  rcases hg with l65 | ⟨l65, l90⟩
  · have k65 : decide ((c.toNat : Int) < 65) = true := decide_eq_true l65
    go_wp2_with fail
    refine (fail_any _ _ _).mono ?_
    rintro e1 w4 ⟨rfl, rfl⟩
    unfold faultP
    go_wp2_with fail
    refine ⟨rfl, ?_, HS.out.fr⟩
    show _ = faultP ((s.size - r.length : Nat) : Int) 11
    rw [hq]
    rfl
  · have k65 : decide ((c.toNat : Int) < 65) = false := decide_eq_false (by omega)
    have k90 : decide ((90 : Int) < (c.toNat : Int)) = true := decide_eq_true l90
    go_wp2_with fail
    refine (fail_any _ _ _).mono ?_
    rintro e1 w4 ⟨rfl, rfl⟩
    unfold faultP
    go_wp2_with fail
    refine ⟨rfl, ?_, HS.out.fr⟩
    show _ = faultP ((s.size - r.length : Nat) : Int) 11
    rw [hq]
    rfl

set_option maxHeartbeats 8000000 in
set_option maxRecDepth 100000 in
theorem term_deep_quote (s : ByteArray) (g p : Nat) (w : World) (hs : s.size ≤ 65536) (hp : p ≤ s.size) (hr : Rd w g s p) (r : List UInt8) (hP : peekL (s.data.toList.drop p) = .ok 34 r) :
    Calls Try.prog 40 #[.pointer (some ⟨g, 0, none⟩), .int .i64 0] w fun e w' => TermPost g s w.heap.size (.bad r.length 2) e w' ∧ Fr g w w' := by
  have HP := hide (peek_any g s p (res0 w) hs hp hr.allocS)
  have HN := hide hr.lt
  have hsuf : r <:+ s.data.toList := (peekL_suffix hP).trans (List.drop_suffix _ _)
  have hr0 : 0 < r.length := by obtain ⟨_, r', e3⟩ := peekL_ok hP; rw [e3]; simp
  have hle := hsuf.length_le
  rw [size_len] at hle
  have hdr : s.data.toList.drop (s.size - r.length) = r := by have := drop_suffix hsuf; rw [size_len] at this; exact this
  rw [hP] at HP
  obtain ⟨q, hq⟩ : ∃ q, s.size - r.length = q := ⟨_, rfl⟩
  rw [hq] at hdr
  have hqi : (q : Int) ≤ 65536 := by omega
  have HHP := hide hP
  clear hP
  clear hr
  go_enter Try.func40, Try.ntmps40
  go_wp2_with fail
  change Calls Try.prog 54 _ (res0 w) _
  refine HP.out.mono ?_
  rintro e1 w1 ⟨⟨rfl, hr1⟩, hf1⟩
  rw [hq] at hr1
  have HS := hide (Start.of HN.out hr1 hf1)
  have c1 := hr1.cell1
  have z1 := hr1.free1
  have hlt := hr1.lt
  have hne := HS.out.ne
  have hsz := HS.out.blk.lt
  clear hr1 hf1 HP
  go_wp2_with fail
  refine (fail_any _ _ _).mono ?_
  rintro e1 w4 ⟨rfl, rfl⟩
  unfold faultP
  go_wp2_with fail
  refine ⟨rfl, ?_, HS.out.fr⟩
  show _ = faultP ((s.size - r.length : Nat) : Int) 2
  rw [hq]
  rfl

set_option maxHeartbeats 8000000 in
set_option maxRecDepth 100000 in
theorem term_deep_open (s : ByteArray) (g p : Nat) (w : World) (hs : s.size ≤ 65536) (hp : p ≤ s.size) (hr : Rd w g s p) (r : List UInt8) (hP : peekL (s.data.toList.drop p) = .ok 91 r) :
    Calls Try.prog 40 #[.pointer (some ⟨g, 0, none⟩), .int .i64 0] w fun e w' => TermPost g s w.heap.size (.bad r.length 2) e w' ∧ Fr g w w' := by
  have HP := hide (peek_any g s p (res0 w) hs hp hr.allocS)
  have HN := hide hr.lt
  have hsuf : r <:+ s.data.toList := (peekL_suffix hP).trans (List.drop_suffix _ _)
  have hr0 : 0 < r.length := by obtain ⟨_, r', e3⟩ := peekL_ok hP; rw [e3]; simp
  have hle := hsuf.length_le
  rw [size_len] at hle
  have hdr : s.data.toList.drop (s.size - r.length) = r := by have := drop_suffix hsuf; rw [size_len] at this; exact this
  rw [hP] at HP
  obtain ⟨q, hq⟩ : ∃ q, s.size - r.length = q := ⟨_, rfl⟩
  rw [hq] at hdr
  have hqi : (q : Int) ≤ 65536 := by omega
  have HHP := hide hP
  clear hP
  clear hr
  go_enter Try.func40, Try.ntmps40
  go_wp2_with fail
  change Calls Try.prog 54 _ (res0 w) _
  refine HP.out.mono ?_
  rintro e1 w1 ⟨⟨rfl, hr1⟩, hf1⟩
  rw [hq] at hr1
  have HS := hide (Start.of HN.out hr1 hf1)
  have c1 := hr1.cell1
  have z1 := hr1.free1
  have hlt := hr1.lt
  have hne := HS.out.ne
  have hsz := HS.out.blk.lt
  clear hr1 hf1 HP
  go_wp2_with fail
  refine (fail_any _ _ _).mono ?_
  rintro e1 w4 ⟨rfl, rfl⟩
  unfold faultP
  go_wp2_with fail
  refine ⟨rfl, ?_, HS.out.fr⟩
  show _ = faultP ((s.size - r.length : Nat) : Int) 2
  rw [hq]
  rfl

set_option maxHeartbeats 8000000 in
set_option maxRecDepth 100000 in
theorem term_deep_dash (s : ByteArray) (g p : Nat) (w : World) (hs : s.size ≤ 65536) (hp : p ≤ s.size) (hr : Rd w g s p) (r : List UInt8) (hP : peekL (s.data.toList.drop p) = .ok 45 r) :
    Calls Try.prog 40 #[.pointer (some ⟨g, 0, none⟩), .int .i64 0] w fun e w' => TermPost g s w.heap.size (.bad r.length 2) e w' ∧ Fr g w w' := by
  have HP := hide (peek_any g s p (res0 w) hs hp hr.allocS)
  have HN := hide hr.lt
  have hsuf : r <:+ s.data.toList := (peekL_suffix hP).trans (List.drop_suffix _ _)
  have hr0 : 0 < r.length := by obtain ⟨_, r', e3⟩ := peekL_ok hP; rw [e3]; simp
  have hle := hsuf.length_le
  rw [size_len] at hle
  have hdr : s.data.toList.drop (s.size - r.length) = r := by have := drop_suffix hsuf; rw [size_len] at this; exact this
  rw [hP] at HP
  obtain ⟨q, hq⟩ : ∃ q, s.size - r.length = q := ⟨_, rfl⟩
  rw [hq] at hdr
  have hqi : (q : Int) ≤ 65536 := by omega
  have HHP := hide hP
  clear hP
  clear hr
  go_enter Try.func40, Try.ntmps40
  go_wp2_with fail
  change Calls Try.prog 54 _ (res0 w) _
  refine HP.out.mono ?_
  rintro e1 w1 ⟨⟨rfl, hr1⟩, hf1⟩
  rw [hq] at hr1
  have HS := hide (Start.of HN.out hr1 hf1)
  have c1 := hr1.cell1
  have z1 := hr1.free1
  have hlt := hr1.lt
  have hne := HS.out.ne
  have hsz := HS.out.blk.lt
  clear hr1 hf1 HP
  go_wp2_with fail
  refine (fail_any _ _ _).mono ?_
  rintro e1 w4 ⟨rfl, rfl⟩
  unfold faultP
  go_wp2_with fail
  refine ⟨rfl, ?_, HS.out.fr⟩
  show _ = faultP ((s.size - r.length : Nat) : Int) 2
  rw [hq]
  rfl

set_option maxHeartbeats 8000000 in
set_option maxRecDepth 100000 in
theorem term_deep_some (s : ByteArray) (g p : Nat) (w : World) (hs : s.size ≤ 65536) (hp : p ≤ s.size) (hr : Rd w g s p) (r : List UInt8) (hP : peekL (s.data.toList.drop p) = .ok 63 r) :
    Calls Try.prog 40 #[.pointer (some ⟨g, 0, none⟩), .int .i64 0] w fun e w' => TermPost g s w.heap.size (.bad r.length 2) e w' ∧ Fr g w w' := by
  have HP := hide (peek_any g s p (res0 w) hs hp hr.allocS)
  have HN := hide hr.lt
  have hsuf : r <:+ s.data.toList := (peekL_suffix hP).trans (List.drop_suffix _ _)
  have hr0 : 0 < r.length := by obtain ⟨_, r', e3⟩ := peekL_ok hP; rw [e3]; simp
  have hle := hsuf.length_le
  rw [size_len] at hle
  have hdr : s.data.toList.drop (s.size - r.length) = r := by have := drop_suffix hsuf; rw [size_len] at this; exact this
  rw [hP] at HP
  obtain ⟨q, hq⟩ : ∃ q, s.size - r.length = q := ⟨_, rfl⟩
  rw [hq] at hdr
  have hqi : (q : Int) ≤ 65536 := by omega
  have HHP := hide hP
  clear hP
  clear hr
  go_enter Try.func40, Try.ntmps40
  go_wp2_with fail
  change Calls Try.prog 54 _ (res0 w) _
  refine HP.out.mono ?_
  rintro e1 w1 ⟨⟨rfl, hr1⟩, hf1⟩
  rw [hq] at hr1
  have HS := hide (Start.of HN.out hr1 hf1)
  have c1 := hr1.cell1
  have z1 := hr1.free1
  have hlt := hr1.lt
  have hne := HS.out.ne
  have hsz := HS.out.blk.lt
  clear hr1 hf1 HP
  go_wp2_with fail
  refine (fail_any _ _ _).mono ?_
  rintro e1 w4 ⟨rfl, rfl⟩
  unfold faultP
  go_wp2_with fail
  refine ⟨rfl, ?_, HS.out.fr⟩
  show _ = faultP ((s.size - r.length : Nat) : Int) 2
  rw [hq]
  rfl

set_option maxHeartbeats 8000000 in
set_option maxRecDepth 100000 in
theorem term_deep_name (s : ByteArray) (g p : Nat) (w : World) (hs : s.size ≤ 65536) (hp : p ≤ s.size) (hr : Rd w g s p) (r : List UInt8) (c : UInt8) (HC : greatB c.toNat = true) (hP : peekL (s.data.toList.drop p) = .ok c r) :
    Calls Try.prog 40 #[.pointer (some ⟨g, 0, none⟩), .int .i64 0] w fun e w' => TermPost g s w.heap.size (.bad r.length 2) e w' ∧ Fr g w w' := by
  have HP := hide (peek_any g s p (res0 w) hs hp hr.allocS)
  have HN := hide hr.lt
  have hsuf : r <:+ s.data.toList := (peekL_suffix hP).trans (List.drop_suffix _ _)
  have hr0 : 0 < r.length := by obtain ⟨_, r', e3⟩ := peekL_ok hP; rw [e3]; simp
  have hle := hsuf.length_le
  rw [size_len] at hle
  have hdr : s.data.toList.drop (s.size - r.length) = r := by have := drop_suffix hsuf; rw [size_len] at this; exact this
  rw [hP] at HP
  obtain ⟨q, hq⟩ : ∃ q, s.size - r.length = q := ⟨_, rfl⟩
  rw [hq] at hdr
  have hqi : (q : Int) ≤ 65536 := by omega
  have HHP := hide hP
  clear hP
  have k34 : ¬ (c.toNat : Int) = 34 := by have := HC; simp [greatB] at this; omega
  have k91 : ¬ (c.toNat : Int) = 91 := by have := HC; simp [greatB] at this; omega
  have k45 : ¬ (c.toNat : Int) = 45 := by have := HC; simp [greatB] at this; omega
  have k63 : ¬ (c.toNat : Int) = 63 := by have := HC; simp [greatB] at this; omega
  have n34 : ((c.toNat : Int) == 34) = false := byte_ne (x := 34) (by rintro rfl; revert HC; decide)
  have n91 : ((c.toNat : Int) == 91) = false := byte_ne (x := 91) (by rintro rfl; revert HC; decide)
  have n45 : ((c.toNat : Int) == 45) = false := byte_ne (x := 45) (by rintro rfl; revert HC; decide)
  have n63 : ((c.toNat : Int) == 63) = false := byte_ne (x := 63) (by rintro rfl; revert HC; decide)
  have b34 : ((c.toNat : Int) != 34) = true := by simpa using k34
  have b91 : ((c.toNat : Int) != 91) = true := by simpa using k91
  have b45 : ((c.toNat : Int) != 45) = true := by simpa using k45
  have b63 : ((c.toNat : Int) != 63) = true := by simpa using k63
  have l65 : decide ((c.toNat : Int) < 65) = false := by have := HC; simp [greatB] at this; exact decide_eq_false (by omega)
  have l90 : decide ((90 : Int) < (c.toNat : Int)) = false := by have := HC; simp [greatB] at this; exact decide_eq_false (by omega)
  clear hr
  go_enter Try.func40, Try.ntmps40
  go_wp2_with fail
  change Calls Try.prog 54 _ (res0 w) _
  refine HP.out.mono ?_
  rintro e1 w1 ⟨⟨rfl, hr1⟩, hf1⟩
  rw [hq] at hr1
  have HS := hide (Start.of HN.out hr1 hf1)
  have c1 := hr1.cell1
  have z1 := hr1.free1
  have hlt := hr1.lt
  have hne := HS.out.ne
  have hsz := HS.out.blk.lt
  clear hr1 hf1 HP
  go_wp2_with fail
  refine (fail_any _ _ _).mono ?_
  rintro e1 w4 ⟨rfl, rfl⟩
  unfold faultP
  go_wp2_with fail
  refine ⟨rfl, ?_, HS.out.fr⟩
  show _ = faultP ((s.size - r.length : Nat) : Int) 2
  rw [hq]
  rfl

end Go.Proofs.Ytfndldfnlncabaa
