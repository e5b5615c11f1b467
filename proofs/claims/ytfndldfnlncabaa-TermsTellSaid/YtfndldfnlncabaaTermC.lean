/- The walk of the reader's method term: texts, lists, and the one inside a question mark. -/
import Derived.Test.YtfndldfnlncabaaTermA
namespace Go.Proofs.Ytfndldfnlncabaa
set_option linter.unnecessarySimpa false
set_option linter.deprecated false
open Go.RowKit
set_option linter.unusedVariables false
set_option linter.unusedSimpArgs false

theorem lay4_size (w : World) (k : Nat) (v0 v1 v2 v3 : Value) : (lay4 w k v0 v1 v2 v3).heap.size = w.heap.size := by simp only [lay4, size_setCell]
theorem some_end {g : Nat} {s : ByteArray} {w w2 : World} {B : Nat} {T : Tm} {l : List UInt8} {v0 v1 v2 v3 : Value} (hf : Fr g w w2) (hr : Rd w2 g s (s.size - l.length)) (hg : g < w.heap.size)
    (hT : RTo (fun k => B ≤ k) w2 T (.agg #[v0, v1, v2, v3])) (hB : w.heap.size + 1 ≤ B) :
    TermPost g s w.heap.size (.ok (.mk 5 emptyB [] [T]) l) (.returned (.agg #[.int .i64 5, .string emptyB, .slice none 0 0, .slice (some ⟨w2.heap.size, 0, none⟩) 1 1])) ((lay4 w2 w.heap.size (.int .i64 5) (.string emptyB) (.slice none 0 0) (.slice (some ⟨w2.heap.size, 0, none⟩) 1 1)).alloc (.cells #[v0, v1, v2, v3] 25)) ∧
      Fr g w ((lay4 w2 w.heap.size (.int .i64 5) (.string emptyB) (.slice none 0 0) (.slice (some ⟨w2.heap.size, 0, none⟩) 1 1)).alloc (.cells #[v0, v1, v2, v3] 25)) := by
  have hfs := hf.size
  have hb := Blk.new (lay4 w2 w.heap.size (.int .i64 5) (.string emptyB) (.slice none 0 0) (.slice (some ⟨w2.heap.size, 0, none⟩) 1 1)) #[v0, v1, v2, v3] 25
  rw [lay4_size] at hb
  refine ⟨⟨_, rfl, RTo.shut (by decide) (by decide) RBo.nil ⟨by simp, fun _ => ⟨w2.heap.size, 0, rfl, hfs, hb.lt, ?_⟩⟩ rfl rfl, ?_⟩, ?_⟩
  · rw [RTos, RTos]
    refine ⟨⟨v0, v1, v2, v3, hb.cell 0, hb.cell 1, hb.cell 2, hb.cell 3, RTo.weak (fun k hk => by omega) (RTo.keep (Keep.allocS (Keep.setS (Keep.setS (Keep.setS (Keep.setS (Keep.refl _ _) ?_) ?_) ?_) ?_)) hT)⟩, trivial⟩ <;> omega
  · exact Rd.allocS (Rd.setS (Rd.setS (Rd.setS (Rd.setS hr (by omega)) (by omega)) (by omega)) (by omega))
  · exact Fr.allocS (Fr.setN (Fr.setN (Fr.setN (Fr.setN hf (by omega)) (by omega)) (by omega)) (by omega))

set_option maxHeartbeats 8000000 in
set_option maxRecDepth 100000 in
theorem term_quote (s : ByteArray) (g p : Nat) (w : World) (m : Int) (hm : (m == 0) = false) (hm1 : 0 ≤ m) (hm2 : m ≤ 200) (hs : s.size ≤ 65536) (hp : p ≤ s.size) (hr : Rd w g s p) (r : List UInt8) (res : PR Tm) (hres : (match quotL r with | .bad m c => .bad m c | .ok bs r2 => .ok (.mk 2 emptyB bs []) r2) = res) (hP : peekL (s.data.toList.drop p) = .ok 34 r) :
    Calls Try.prog 40 #[.pointer (some ⟨g, 0, none⟩), .int .i64 m] w fun e w' => TermPost g s w.heap.size (res) e w' ∧ Fr g w w' := by
  have HP := hide (peek_any g s p (res0 w) hs hp hr.allocS)
  have HN := hide hr.lt
  have hsuf : r <:+ s.data.toList := (peekL_suffix hP).trans (List.drop_suffix _ _)
  have hr0 : 0 < r.length := by obtain ⟨_, r', e3⟩ := peekL_ok hP; rw [e3]; simp
  have hle := hsuf.length_le
  rw [size_len] at hle
  have hdr : s.data.toList.drop (s.size - r.length) = r := by have := drop_suffix hsuf; rw [size_len] at this; exact this
  rw [hP] at HP
  obtain ⟨q, hq⟩ : ∃ q, s.size - r.length = q := ⟨_, rfl⟩
  rw [hq] at hdr
  have hqi : (q : Int) ≤ 65536 := by omega
  have HHP := hide hP
  clear hP
  have hqs : q < s.size := by omega
  have h34 : s[q]'hqs = 34 := by
    have h := hdr
    obtain ⟨_, r', e3⟩ := peekL_ok HHP.out
    rw [drop_at s q hqs, e3] at h
    injection h
  clear hr
  go_enter Try.func40, Try.ntmps40
  go_wp2_with fail
  change Calls Try.prog 54 _ (res0 w) _
  refine HP.out.mono ?_
  rintro e1 w1 ⟨⟨rfl, hr1⟩, hf1⟩
  rw [hq] at hr1
  have HS := hide (Start.of HN.out hr1 hf1)
  have c1 := hr1.cell1
  have z1 := hr1.free1
  have hlt := hr1.lt
  have hne := HS.out.ne
  have hsz := HS.out.blk.lt
  clear hr1 hf1 HP
  have HQ := hide (rquoted_any g s q w1 hs hqs h34 HS.out.rd)
  rw [hdr] at HQ
  have d0 := (HS.out.blk).cell 0
  have dz0 := (HS.out.blk).free 0
  have d1 := (HS.out.blk).cell 1
  have dz1 := (HS.out.blk).free 1
  have d2 := (HS.out.blk).cell 2
  have dz2 := (HS.out.blk).free 2
  have d3 := (HS.out.blk).cell 3
  have dz3 := (HS.out.blk).free 3
  cases hQ : quotL r with
  | bad k c =>
    obtain rfl : res = .bad k c := by rw [hQ] at hres; exact hres.symm
    rw [hQ] at HQ
    clear hres
    go_wp2_with fail
    refine HQ.out.mono ?_
    rintro e2 w2 ⟨rfl, hf2⟩
    unfold faultP
    go_wp2_with fail
    exact ⟨rfl, rfl, HS.out.fr.trans hf2⟩
  | ok bs l =>
    obtain rfl : res = .ok (.mk 2 emptyB bs []) l := by rw [hQ] at hres; exact hres.symm
    rw [hQ] at HQ
    clear hres
    go_wp2_with fail
    refine HQ.out.mono ?_
    rintro e2 w2 ⟨⟨a, cap, rfl, hb2, hr2⟩, hf2⟩
    have HX := hide hb2
    clear hb2 c1 z1 hlt d0 d1 d2 d3 dz0 dz1 dz2 dz3
    have c12 := hr2.cell1
    have hlt2 := hr2.lt
    have HR2 := hide hr2
    have HF2 := hide hf2
    have HB2 := hide (show Blk w2 w.heap.size #[.int .i64 0, .string emptyB, .slice none 0 0, .slice none 0 0] 25 from HS.out.blk.keep (ok := fun k => k ≠ g) (hf2.keep fun k hk => hk) (by show _ ≠ _; omega))
    have d0 := (HB2.out).cell 0
    have dz0 := (HB2.out).free 0
    have d1 := (HB2.out).cell 1
    have dz1 := (HB2.out).free 1
    have d2 := (HB2.out).cell 2
    have dz2 := (HB2.out).free 2
    have d3 := (HB2.out).cell 3
    have dz3 := (HB2.out).free 3

    have hsz2 := HB2.out.lt
    clear hr2 hf2
    go_wp2_with fail
    refine ret40 rfl rfl (Blk.lay HB2.out) (term_end (HS.out.fr.trans HF2.out) HR2.out hne (RTo.shut (by decide) (by decide) (RBo.weak (fun k hk => by omega) HX.out) RKo.nil rfl rfl) rfl)

set_option maxHeartbeats 8000000 in
set_option maxRecDepth 100000 in
theorem term_open (s : ByteArray) (g p : Nat) (w : World) (m : Int) (hm : (m == 0) = false) (hm1 : 0 ≤ m) (hm2 : m ≤ 200) (hs : s.size ≤ 65536) (hp : p ≤ s.size) (hr : Rd w g s p) (r : List UInt8) (n : Nat) (hmn : m - 1 = (n : Int)) (ih : TermOk s n) (res : PR Tm) (hres : (match listsL (termL n) 93 true (r.drop 1) with | .bad m c => .bad m c | .ok ks r2 => .ok (.mk 3 emptyB [] ks) r2) = res) (hP : peekL (s.data.toList.drop p) = .ok 91 r) :
    Calls Try.prog 40 #[.pointer (some ⟨g, 0, none⟩), .int .i64 m] w fun e w' => TermPost g s w.heap.size (res) e w' ∧ Fr g w w' := by
  have HP := hide (peek_any g s p (res0 w) hs hp hr.allocS)
  have HN := hide hr.lt
  have hsuf : r <:+ s.data.toList := (peekL_suffix hP).trans (List.drop_suffix _ _)
  have hr0 : 0 < r.length := by obtain ⟨_, r', e3⟩ := peekL_ok hP; rw [e3]; simp
  have hle := hsuf.length_le
  rw [size_len] at hle
  have hdr : s.data.toList.drop (s.size - r.length) = r := by have := drop_suffix hsuf; rw [size_len] at this; exact this
  rw [hP] at HP
  obtain ⟨q, hq⟩ : ∃ q, s.size - r.length = q := ⟨_, rfl⟩
  rw [hq] at hdr
  have hqi : (q : Int) ≤ 65536 := by omega
  have HHP := hide hP
  clear hP
  clear hr
  go_enter Try.func40, Try.ntmps40
  go_wp2_with fail
  change Calls Try.prog 54 _ (res0 w) _
  refine HP.out.mono ?_
  rintro e1 w1 ⟨⟨rfl, hr1⟩, hf1⟩
  rw [hq] at hr1
  have HS := hide (Start.of HN.out hr1 hf1)
  have c1 := hr1.cell1
  have z1 := hr1.free1
  have hlt := hr1.lt
  have hne := HS.out.ne
  have hsz := HS.out.blk.lt
  clear hr1 hf1 HP
  have HQ := hide (rlist_any s n ih hs g q w1 93 true (by omega) HS.out.rd)
  rw [← List.drop_drop, hdr] at HQ
  have hm3 : -9223372036854775808 ≤ m - 1 ∧ m - 1 ≤ 9223372036854775807 := by omega
  have d0 := (HS.out.blk).cell 0
  have dz0 := (HS.out.blk).free 0
  have d1 := (HS.out.blk).cell 1
  have dz1 := (HS.out.blk).free 1
  have d2 := (HS.out.blk).cell 2
  have dz2 := (HS.out.blk).free 2
  have d3 := (HS.out.blk).cell 3
  have dz3 := (HS.out.blk).free 3
  cases hQ : listsL (termL n) 93 true (r.drop 1) with
  | bad k c =>
    obtain rfl : res = .bad k c := by rw [hQ] at hres; exact hres.symm
    rw [hQ] at HQ
    clear hres
    go_wp2_with fail
    refine HQ.out.mono ?_
    rintro e2 w2 ⟨rfl, hf2⟩
    unfold faultP
    go_wp2_with fail
    exact ⟨rfl, rfl, HS.out.fr.trans hf2⟩
  | ok ks l =>
    obtain rfl : res = .ok (.mk 3 emptyB [] ks) l := by rw [hQ] at hres; exact hres.symm
    rw [hQ] at HQ
    clear hres
    go_wp2_with fail
    refine HQ.out.mono ?_
    rintro e2 w2 ⟨⟨a, cap, rfl, hb2, hr2⟩, hf2⟩
    have HX := hide hb2
    clear hb2 c1 z1 hlt d0 d1 d2 d3 dz0 dz1 dz2 dz3
    have c12 := hr2.cell1
    have hlt2 := hr2.lt
    have HR2 := hide hr2
    have HF2 := hide hf2
    have HB2 := hide (show Blk w2 w.heap.size #[.int .i64 0, .string emptyB, .slice none 0 0, .slice none 0 0] 25 from HS.out.blk.keep (ok := fun k => k ≠ g) (hf2.keep fun k hk => hk) (by show _ ≠ _; omega))
    have d0 := (HB2.out).cell 0
    have dz0 := (HB2.out).free 0
    have d1 := (HB2.out).cell 1
    have dz1 := (HB2.out).free 1
    have d2 := (HB2.out).cell 2
    have dz2 := (HB2.out).free 2
    have d3 := (HB2.out).cell 3
    have dz3 := (HB2.out).free 3

    have hsz2 := HB2.out.lt
    clear hr2 hf2
    go_wp2_with fail
    refine ret40 rfl rfl (Blk.lay HB2.out) (term_end (HS.out.fr.trans HF2.out) HR2.out hne (RTo.shut (by decide) (by decide) RBo.nil ⟨HX.out.1, fun hn => by obtain ⟨b, o, e, h1, h2⟩ := HX.out.2 hn; exact ⟨b, o, e, by omega, h2.1, RTos.weak (fun k hk => by omega) h2.2⟩⟩ rfl rfl) rfl)

set_option maxHeartbeats 8000000 in
set_option maxRecDepth 100000 in
theorem term_some (s : ByteArray) (g p : Nat) (w : World) (m : Int) (hm : (m == 0) = false) (hm1 : 0 ≤ m) (hm2 : m ≤ 200) (hs : s.size ≤ 65536) (hp : p ≤ s.size) (hr : Rd w g s p) (r : List UInt8) (n : Nat) (hmn : m - 1 = (n : Int)) (ih : TermOk s n) (res : PR Tm) (hres : (match termL n (r.drop 1) with | .bad m c => .bad m c | .ok T r2 => .ok (.mk 5 emptyB [] [T]) r2) = res) (hP : peekL (s.data.toList.drop p) = .ok 63 r) :
    Calls Try.prog 40 #[.pointer (some ⟨g, 0, none⟩), .int .i64 m] w fun e w' => TermPost g s w.heap.size (res) e w' ∧ Fr g w w' := by
  have HP := hide (peek_any g s p (res0 w) hs hp hr.allocS)
  have HN := hide hr.lt
  have hsuf : r <:+ s.data.toList := (peekL_suffix hP).trans (List.drop_suffix _ _)
  have hr0 : 0 < r.length := by obtain ⟨_, r', e3⟩ := peekL_ok hP; rw [e3]; simp
  have hle := hsuf.length_le
  rw [size_len] at hle
  have hdr : s.data.toList.drop (s.size - r.length) = r := by have := drop_suffix hsuf; rw [size_len] at this; exact this
  rw [hP] at HP
  obtain ⟨q, hq⟩ : ∃ q, s.size - r.length = q := ⟨_, rfl⟩
  rw [hq] at hdr
  have hqi : (q : Int) ≤ 65536 := by omega
  have HHP := hide hP
  clear hP
  clear hr
  go_enter Try.func40, Try.ntmps40
  go_wp2_with fail
  change Calls Try.prog 54 _ (res0 w) _
  refine HP.out.mono ?_
  rintro e1 w1 ⟨⟨rfl, hr1⟩, hf1⟩
  rw [hq] at hr1
  have HS := hide (Start.of HN.out hr1 hf1)
  have c1 := hr1.cell1
  have z1 := hr1.free1
  have hlt := hr1.lt
  have hne := HS.out.ne
  have hsz := HS.out.blk.lt
  clear hr1 hf1 HP
  have HQ := hide (ih g (q + 1) (w1.setCell ⟨g, 1, none⟩ (.int .i64 ((q : Int) + 1))) (by omega) (Rd.set HS.out.rd (q + 1) (by omega)))
  rw [← List.drop_drop, hdr] at HQ
  have HF1 := hide (show Fr g w (w1.setCell ⟨g, 1, none⟩ (.int .i64 ((q : Int) + 1))) from HS.out.fr.setS)
  have HB1 := hide (show Blk (w1.setCell ⟨g, 1, none⟩ (.int .i64 ((q : Int) + 1))) w.heap.size #[.int .i64 0, .string emptyB, .slice none 0 0, .slice none 0 0] 25 from HS.out.blk.setS (Nat.ne_of_lt hne))
  have hm3 : -9223372036854775808 ≤ m - 1 ∧ m - 1 ≤ 9223372036854775807 := by omega
  cases hQ : termL n (r.drop 1) with
  | bad k c =>
    obtain rfl : res = .bad k c := by rw [hQ] at hres; exact hres.symm
    rw [hQ] at HQ
    clear hres
    go_wp2_with fail
    refine HQ.out.mono ?_
    rintro e2 w2 ⟨rfl, hf2⟩
    unfold faultP
    go_wp2_with fail
    exact ⟨rfl, rfl, HF1.out.trans hf2⟩
  | ok T l =>
    obtain rfl : res = .ok (.mk 5 emptyB [] [T]) l := by rw [hQ] at hres; exact hres.symm
    rw [hQ] at HQ
    clear hres
    go_wp2_with fail
    refine HQ.out.mono ?_
    rintro e2 w2 ⟨⟨v, rfl, hv, hr2⟩, hf2⟩
    obtain ⟨a1, k1, a2, k2, rfl, hkk, hcc, _, hrr⟩ := hv.open
    have HX := hide hv
    clear hv hkk hcc hrr c1 z1 hlt
    have c12 := hr2.cell1
    have hlt2 := hr2.lt
    have HR2 := hide hr2
    have HF2 := hide hf2
    have HB2 := hide (show Blk w2 w.heap.size #[.int .i64 0, .string emptyB, .slice none 0 0, .slice none 0 0] 25 from HB1.out.keep (ok := fun k => k ≠ g) (hf2.keep fun k hk => hk) (by show _ ≠ _; omega))
    have d0 := (HB2.out).cell 0
    have dz0 := (HB2.out).free 0
    have d1 := (HB2.out).cell 1
    have dz1 := (HB2.out).free 1
    have d2 := (HB2.out).cell 2
    have dz2 := (HB2.out).free 2
    have d3 := (HB2.out).cell 3
    have dz3 := (HB2.out).free 3

    have hsz2 := HB2.out.lt
    clear hr2 hf2
    go_wp2_with fail
    exact ret40 rfl rfl ((Blk.lay HB2.out).alloc _) (some_end (HF1.out.trans HF2.out) HR2.out hne HX.out (by rw [size_setCell]; omega))

end Go.Proofs.Ytfndldfnlncabaa
