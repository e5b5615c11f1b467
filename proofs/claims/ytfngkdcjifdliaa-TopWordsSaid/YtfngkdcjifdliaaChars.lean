/- The walks of the set's reader: digit, escaped, char, where they read a byte's sign. -/
import Derived.Test.YtfngkdcjifdliaaPrint
import Derived.Test.YtfngkdcjifdliaaEscape
import Derived.Lib.IndexBytes
import Derived.Deep.RegionHeld3
set_option linter.unusedVariables false
set_option linter.unusedSimpArgs false
set_option linter.unnecessarySimpa false
set_option linter.deprecated false
namespace Go.Proofs.Ytfngkdcjifdliaa
open Go.RowKit

set_option maxHeartbeats 1000000 in
theorem dig_any (c : Int) (w : World) (h0 : 0 ≤ c) (h1 : c ≤ 255) : Calls Try.prog 41 #[.int .u8 c] w fun e w' => e = .returned (.int .i64 (valI c)) ∧ w = w' := by
  by_cases a1 : 48 ≤ c
  · by_cases a2 : c ≤ 57
    · have HV := hide (show valI c = c - 48 by unfold valI; rw [if_pos ⟨a1, a2⟩])
      go_enter Try.func41, Try.ntmps41
      go_wp2_with fail
      go_ret
      exact ⟨ret_int (by rw [HV.out]), rfl⟩
    · by_cases a3 : 97 ≤ c ∧ c ≤ 102
      · have HV := hide (show valI c = c - 97 + 10 by unfold valI; rw [if_neg (by omega), if_pos a3]; omega)
        obtain ⟨a4, a5⟩ := a3
        go_enter Try.func41, Try.ntmps41
        go_wp2_with fail
        go_ret
        exact ⟨ret_int (by rw [HV.out]), rfl⟩
      · by_cases a6 : 65 ≤ c ∧ c ≤ 70
        · have HV := hide (show valI c = c - 65 + 10 by unfold valI; rw [if_neg (by omega), if_neg (by omega), if_pos a6]; omega)
          obtain ⟨a7, a8⟩ := a6
          have a9 : ¬ 97 ≤ c := by omega
          clear a3
          go_enter Try.func41, Try.ntmps41
          go_wp2_with fail
          go_ret
          exact ⟨ret_int (by rw [HV.out]), rfl⟩
        · have HV := hide (show valI c = -1 by unfold valI; rw [if_neg (by omega), if_neg (by omega), if_neg (by omega)])
          have b1 : c < 97 ∨ (97 ≤ c ∧ 102 < c) := by omega
          have b2 : c < 65 ∨ (65 ≤ c ∧ 70 < c) := by omega
          clear a3 a6
          rcases b1 with b1 | ⟨b1, b3⟩ <;> rcases b2 with b2 | ⟨b2, b4⟩
          all_goals
            first
            | omega
            | (go_enter Try.func41, Try.ntmps41
               go_wp2_with fail
               go_ret
               exact ⟨ret_int (by rw [HV.out]), rfl⟩)
  · have HV := hide (show valI c = -1 by unfold valI; rw [if_neg (by omega), if_neg (by omega), if_neg (by omega)])
    have b1 : ¬ 97 ≤ c := by omega
    have b2 : ¬ 65 ≤ c := by omega
    go_enter Try.func41, Try.ntmps41
    go_wp2_with fail
    go_ret
    exact ⟨ret_int (by rw [HV.out]), rfl⟩


theorem Wrote.drew {P : Nat → TypeId → Prop} {W W' : World} (h : Wrote P W W') : Wrote P W W'.drew := ⟨h.os, h.tape, h.output, h.size, h.block⟩
/-- What a reading answers. -/
def RdP (rb : Nat) (text : ByteArray) (n : Nat) (v : Int) (w : World) (e : Ending) (w' : World) : Prop := e = .returned (.tuple #[.int .i64 v, .agg #[.int .i64 0, .int .i64 0]]) ∧ Hid (Blk w' rb #[.string text, .int .i64 (n : Int)] 81 ∧ Wrote (fun k _ => k = rb) w w')
theorem ret40 {R : Ending → World → Prop} {a : Act} {W : World} {k : Nat} {v : Value} (h2 : (a.tmps[2]?).getD undef = v) (h3 : (a.tmps[3]?).getD undef = .pointer (some ⟨k, 0, none⟩)) (hd : a.defers = []) (hb : Blk W k #[.int .i64 0, .int .i64 0] 30) (hR : R (.returned (.tuple #[v, .agg #[.int .i64 0, .int .i64 0]])) W) : bodyPost Try.prog Try.f40 R .ret a W := by
  have f0 : W.cell? ⟨k, 0, none⟩ = some (.int .i64 0) := hb.cell 0
  have f1 : W.cell? ⟨k, 1, none⟩ = some (.int .i64 0) := hb.cell 1
  refine ⟨hd, .tuple #[v, .agg #[.int .i64 0, .int .i64 0]], ?_, hR⟩
  simp [results, Try.results40, h2, h3, go_sem, f0, f1, Try.isAgg30, Try.sizeOf30]
theorem ret38 {R : Ending → World → Prop} {a : Act} {W : World} {k : Nat} {v : Value} (h2 : (a.tmps[2]?).getD undef = v) (h3 : (a.tmps[3]?).getD undef = .pointer (some ⟨k, 0, none⟩)) (hd : a.defers = []) (hb : Blk W k #[.int .i64 0, .int .i64 0] 30) (hR : R (.returned (.tuple #[v, .agg #[.int .i64 0, .int .i64 0]])) W) : bodyPost Try.prog Try.f38 R .ret a W := by
  have f0 : W.cell? ⟨k, 0, none⟩ = some (.int .i64 0) := hb.cell 0
  have f1 : W.cell? ⟨k, 1, none⟩ = some (.int .i64 0) := hb.cell 1
  refine ⟨hd, .tuple #[v, .agg #[.int .i64 0, .int .i64 0]], ?_, hR⟩
  simp [results, Try.results38, h2, h3, go_sem, f0, f1, Try.isAgg30, Try.sizeOf30]

/-- What an escape says. -/
def escOk (c : UInt8) (rest : List UInt8) (v : Int) (n : Nat) : Prop :=
  (c = 110 ∧ v = 10 ∧ n = 2) ∨
  (c = 116 ∧ v = 9 ∧ n = 2) ∨
  (c = 114 ∧ v = 13 ∧ n = 2) ∨
  (c = 115 ∧ v = 32 ∧ n = 2) ∨
  (c = 91 ∧ v = 91 ∧ n = 2) ∨
  (c = 93 ∧ v = 93 ∧ n = 2) ∨
  (c = 92 ∧ v = 92 ∧ n = 2) ∨
  (c = 45 ∧ v = 45 ∧ n = 2) ∨
  (c = 94 ∧ v = 94 ∧ n = 2) ∨
  (c = 120 ∧ n = 4 ∧ ∃ x y r, rest = x :: y :: r ∧ 0 ≤ valI x.toNat ∧ 0 ≤ valI y.toNat ∧ v = 16 * valI x.toNat + valI y.toNat)
theorem byte_at {s : ByteArray} {l : List UInt8} (h : s.data.toList = l) (i : Nat) (hi : i < s.size) : s[i]'hi = l[i]'(by rw [← h]; simpa using hi) := by
  subst h
  simp
  rfl

theorem wrote_set {rb i : Nat} {w0 : World} {c : Array Value} {v : Value} {T : TypeId} (hb : Blk w0 rb c T) : Wrote (fun k _ => k = rb) w0 (w0.setCell ⟨rb, i, none⟩ v) := by
  refine ⟨rfl, rfl, rfl, by rw [size_setCell]; exact Nat.le_refl _, fun k o hk hp => ?_⟩
  by_cases e : k = rb
  · subst e
    unfold Blk at hb
    rw [hb] at hk
    injection hk with hk
    exact absurd rfl (hp _ _ _ hk.symm)
  · rw [Below.heap_setCell _ _ _ _ e]
    exact hk
/-- The world while a reading's answer is built. -/
def RdS (rb h : Nat) (text : ByteArray) (u : Int) (w W : World) : Prop := Blk W rb #[.string text, .int .i64 u] 81 ∧ Blk W h #[.int .i64 0, .int .i64 0] 30 ∧ Wrote (fun k _ => k = rb) w W ∧ w.heap.size ≤ h
namespace RdS
variable {rb h : Nat} {text : ByteArray} {u : Int} {w W : World}
theorem c0 (s : RdS rb h text u w W) : W.cell? ⟨h, 0, none⟩ = some (.int .i64 0) := s.2.1.cell 0
theorem c1 (s : RdS rb h text u w W) : W.cell? ⟨h, 1, none⟩ = some (.int .i64 0) := s.2.1.cell 1
theorem f0 (s : RdS rb h text u w W) : W.frozen? ⟨h, 0, none⟩ = false := s.2.1.free 0
theorem f1 (s : RdS rb h text u w W) : W.frozen? ⟨h, 1, none⟩ = false := s.2.1.free 1
theorem all (s : RdS rb h text u w W) : Hid (RdS rb h text u w W) ∧ W.cell? ⟨h, 0, none⟩ = some (.int .i64 0) ∧ W.cell? ⟨h, 1, none⟩ = some (.int .i64 0) ∧ W.frozen? ⟨h, 0, none⟩ = false ∧ W.frozen? ⟨h, 1, none⟩ = false := ⟨hide s, s.c0, s.c1, s.f0, s.f1⟩
theorem store (s : RdS rb h text u w W) (hr : rb < w.heap.size) : RdS rb h text u w ((W.setCell ⟨h, 0, none⟩ (.int .i64 0)).setCell ⟨h, 1, none⟩ (.int .i64 0)) := by
  obtain ⟨a, b, c, d⟩ := s
  refine ⟨(a.other (by omega)).other (by omega), (b.set 0 _).set 1 _, ?_, d⟩
  refine ⟨c.os, c.tape, c.output, by rw [size_setCell, size_setCell]; exact c.size, fun k o hk hp => ?_⟩
  have hl := (Array.getElem?_eq_some_iff.1 hk).1
  rw [Below.heap_setCell _ _ _ _ (show k ≠ h by omega), Below.heap_setCell _ _ _ _ (show k ≠ h by omega)]
  exact c.block k o hk hp
end RdS
/-- The stores at a reading's end. -/
theorem fin_rd {rb h n : Nat} {text : ByteArray} {u : Int} {w w0 : World} (hw : Wrote (fun k _ => k = rb) w w0) (hh : w.heap.size ≤ h) (hr : rb < w.heap.size) (hb : Blk w0 rb #[.string text, .int .i64 (n : Int)] 81) (hf : Blk w0 h #[.int .i64 0, .int .i64 0] 30) :
    Blk (((w0.setCell ⟨rb, 1, none⟩ (.int .i64 u)).setCell ⟨h, 0, none⟩ (.int .i64 0)).setCell ⟨h, 1, none⟩ (.int .i64 0)) h #[.int .i64 0, .int .i64 0] 30 ∧
    Blk (((w0.setCell ⟨rb, 1, none⟩ (.int .i64 u)).setCell ⟨h, 0, none⟩ (.int .i64 0)).setCell ⟨h, 1, none⟩ (.int .i64 0)) rb #[.string text, .int .i64 u] 81 ∧
    Wrote (fun k _ => k = rb) w (((w0.setCell ⟨rb, 1, none⟩ (.int .i64 u)).setCell ⟨h, 0, none⟩ (.int .i64 0)).setCell ⟨h, 1, none⟩ (.int .i64 0)) := by
  refine ⟨((hf.other (by omega)).set 0 _).set 1 _, ((hb.set 1 _).other (by omega)).other (by omega), ?_⟩
  refine ⟨hw.os, hw.tape, hw.output, by rw [size_setCell, size_setCell, size_setCell]; exact hw.size, fun k o hk hp => ?_⟩
  have hl := (Array.getElem?_eq_some_iff.1 hk).1
  have h1 := hw.block k o hk hp
  have hne : k ≠ rb ∨ ∃ c t f, o = Obj.cells c t f ∧ k = rb := by
    by_cases e : k = rb
    · subst e
      right
      unfold Blk at hb
      rw [h1] at hb
      injection hb with hb
      exact ⟨_, _, _, hb, rfl⟩
    · exact Or.inl e
  rcases hne with hne | ⟨c, t, f, he, hk2⟩
  · rw [Below.heap_setCell _ _ _ _ (show k ≠ h by omega), Below.heap_setCell _ _ _ _ (show k ≠ h by omega), Below.heap_setCell _ _ _ _ hne]
    exact h1
  · exact absurd hk2 (hp c t f he)

set_option maxHeartbeats 4000000 in
set_option maxRecDepth 100000 in
theorem escaped_ok (rb : Nat) (text : ByteArray) (n m : Nat) (c : UInt8) (rest : List UInt8) (v : Int) (w : World) (hb : Blk w rb #[.string text, .int .i64 (n : Int)] 81) (ht : text.data.toList.drop n = 92 :: c :: rest) (hs : text.size ≤ 100000) (ho : escOk c rest v m) :
    Calls Try.prog 40 #[.pointer (some ⟨rb, 0, none⟩)] w (RdP rb text (n + m) v w) := by
  have hlen := congrArg List.length ht
  rw [List.length_drop, List.length_cons, List.length_cons] at hlen
  have hts : text.data.toList.length = text.size := size_len text
  rw [hts] at hlen
  obtain ⟨rs, hrs⟩ : ∃ rs, text.extract (n + 1) text.size = rs := ⟨_, rfl⟩
  have hrl : rs.data.toList = c :: rest := by
    rw [← hrs, Lib.extract_to_end, ← List.drop_drop, ht]
    rfl
  have hrz : rs.size = rest.length + 1 := by rw [← size_len rs, hrl]; rfl
  have hr0 : 0 < rs.size := by omega
  have hc0 : rs[0]'hr0 = c := by rw [byte_at hrl]; rfl
  have HRS := hide hrs
  have HB := hide hb
  have e0 := hb.cell 0
  have e1 := hb.cell 1
  have el := hb.lt
  have f1 := hb.free 1
  have hnn : n + 1 ≤ text.size := by omega
  have hni : (n : Int) + 1 ≤ (text.size : Int) := by omega
  have HRL := hide hrl
  clear hts hrs hb hlen hrl
  go_enter Try.func40, Try.ntmps40
  go_upto_region 2 with fail
  go_quiet (fail)
  go_upto_region 3 with fail
  rw [HRS.out]
  clear HRS
  have hemp : rs.toList.isEmpty = false := by rw [ByteArray.toList_eq, HRL.out]; rfl
  have hw0 : Wrote (fun k _ => k = rb) w (((w.alloc (.cells #[.int .i64 0, .int .i64 0] 30)).alloc (.cells #[.int .i64 (n : Int), .int .i64 12] 30)).drewN nq) := ((Wrote.alloc _ _ _).trans (Wrote.alloc _ _ _)).trans (Wrote.draw _ _ _)
  have hb0 : Blk (((w.alloc (.cells #[.int .i64 0, .int .i64 0] 30)).alloc (.cells #[.int .i64 (n : Int), .int .i64 12] 30)).drewN nq) rb #[.string text, .int .i64 (n : Int)] 81 := (HB.out.alloc _).alloc _
  have hf0 : Blk (((w.alloc (.cells #[.int .i64 0, .int .i64 0] 30)).alloc (.cells #[.int .i64 (n : Int), .int .i64 12] 30)).drewN nq) w.heap.size #[.int .i64 0, .int .i64 0] 30 := (Blk.new w _ _).alloc _
  generalize ((w.alloc (.cells #[.int .i64 0, .int .i64 0] 30)).alloc (.cells #[.int .i64 (n : Int), .int .i64 12] 30)).drewN nq = w0 at hw0 hb0 hf0 ⊢
  have HW0 := hide hw0
  have HB0 := hide hb0
  have HF0 := hide hf0
  have HE := hide el
  have e0 := hb0.cell 0
  have e1 := hb0.cell 1
  have el := hb0.lt
  have f1 := hb0.free 1
  have z0 := hf0.cell 0
  have z1 := hf0.cell 1
  have zl := hf0.lt
  have y0 := hf0.free 0
  have y1 := hf0.free 1
  have hni2 : (n : Int) + 2 ≤ 200000 := by omega
  have HP := hide (show ∀ (d : Nat) (u : Int), (u = ((n + d : Nat) : Int)) → ∀ v, RdP rb text (n + d) v w (.returned (.tuple #[.int .i64 v, .agg #[.int .i64 0, .int .i64 0]])) (((w0.setCell ⟨rb, 1, none⟩ (.int .i64 u)).setCell ⟨w.heap.size, 0, none⟩ (.int .i64 0)).setCell ⟨w.heap.size, 1, none⟩ (.int .i64 0)) from fun d u hu v => by
    subst hu
    have := fin_rd (u := ((n + d : Nat) : Int)) HW0.out (Nat.le_refl _) HE.out HB0.out HF0.out
    exact ⟨rfl, this.2.1, this.2.2⟩)
  have HQ := hide (fun u => (fin_rd (u := u) HW0.out (Nat.le_refl _) HE.out HB0.out HF0.out).1)
  clear hw0 hb0 hf0 HB
  rcases ho with ⟨rfl, rfl, rfl⟩ | ⟨rfl, rfl, rfl⟩ | ⟨rfl, rfl, rfl⟩ | ⟨rfl, rfl, rfl⟩ | ⟨rfl, rfl, rfl⟩ | ⟨rfl, rfl, rfl⟩ | ⟨rfl, rfl, rfl⟩ | ⟨rfl, rfl, rfl⟩ | ⟨rfl, rfl, rfl⟩ | ⟨rfl, rfl, x, y, r, rfl, hx, hy, rfl⟩
  · go_wp2_with fail
    refine ret40 (k := w.heap.size) rfl rfl rfl (HQ.out _) ?_
    exact HP.out 2 _ (by omega) _
  · go_wp2_with fail
    refine ret40 (k := w.heap.size) rfl rfl rfl (HQ.out _) ?_
    exact HP.out 2 _ (by omega) _
  · go_wp2_with fail
    refine ret40 (k := w.heap.size) rfl rfl rfl (HQ.out _) ?_
    exact HP.out 2 _ (by omega) _
  · go_wp2_with fail
    refine ret40 (k := w.heap.size) rfl rfl rfl (HQ.out _) ?_
    exact HP.out 2 _ (by omega) _
  · go_wp2_with fail
    refine ret40 (k := w.heap.size) rfl rfl rfl (HQ.out _) ?_
    exact HP.out 2 _ (by omega) _
  · go_wp2_with fail
    refine ret40 (k := w.heap.size) rfl rfl rfl (HQ.out _) ?_
    exact HP.out 2 _ (by omega) _
  · go_wp2_with fail
    refine ret40 (k := w.heap.size) rfl rfl rfl (HQ.out _) ?_
    exact HP.out 2 _ (by omega) _
  · go_wp2_with fail
    refine ret40 (k := w.heap.size) rfl rfl rfl (HQ.out _) ?_
    exact HP.out 2 _ (by omega) _
  · go_wp2_with fail
    refine ret40 (k := w.heap.size) rfl rfl rfl (HQ.out _) ?_
    exact HP.out 2 _ (by omega) _
  · have hz3 : 3 ≤ rs.size := by have := hrz; simp only [List.length_cons] at this; omega
    have hz3i : (3 : Int) ≤ (rs.size : Int) := by omega
    have hz1 : 1 < rs.size := by omega
    have hz2 : 2 < rs.size := by omega
    have hx0 : rs[1]'hz1 = x := by rw [byte_at HRL.out]; rfl
    have hy0 : rs[2]'hz2 = y := by rw [byte_at HRL.out]; rfl
    have hxl := x.toNat_lt
    have hyl := y.toNat_lt
    have q1 : (0 : Int) ≤ x.toNat := by omega
    have q2 : (x.toNat : Int) ≤ 255 := by omega
    have q3 : (0 : Int) ≤ y.toNat := by omega
    have q4 : (y.toNat : Int) ≤ 255 := by omega
    obtain ⟨hx1, hx2⟩ := valI_le x.toNat
    obtain ⟨hy1, hy2⟩ := valI_le y.toNat
    clear hxl hyl hrz
    go_upto_region 24 with (go_at_call 41; refine (dig_any _ _ (by assumption) (by assumption)).mono ?_; rintro e w' ⟨rfl, rfl⟩)
    have hw2 : Wrote (fun k _ => k = rb) w ((w0.setCell ⟨rb, 1, none⟩ (.int .i64 ((n : Int) + 2))).setCell ⟨rb, 1, none⟩ (.int .i64 ((n : Int) + 2 + 2))) := (HW0.out.trans (wrote_set HB0.out)).trans (wrote_set (HB0.out.set 1 _))
    have hb2 : Blk ((w0.setCell ⟨rb, 1, none⟩ (.int .i64 ((n : Int) + 2))).setCell ⟨rb, 1, none⟩ (.int .i64 ((n : Int) + 2 + 2))) rb #[.string text, .int .i64 ((n : Int) + 2 + 2)] 81 := (HB0.out.set 1 _).set 1 _
    have hf2 : Blk ((w0.setCell ⟨rb, 1, none⟩ (.int .i64 ((n : Int) + 2))).setCell ⟨rb, 1, none⟩ (.int .i64 ((n : Int) + 2 + 2))) w.heap.size #[.int .i64 0, .int .i64 0] 30 := (HF0.out.other (by have := HE.out; omega)).other (by have := HE.out; omega)
    generalize (w0.setCell ⟨rb, 1, none⟩ (.int .i64 ((n : Int) + 2))).setCell ⟨rb, 1, none⟩ (.int .i64 ((n : Int) + 2 + 2)) = w2 at hw2 hb2 hf2 ⊢
    clear HQ HP e0 e1 el f1 z0 z1 zl y0 y1
    have HW2 := hide hw2
    have HB2 := hide hb2
    have HF2 := hide hf2
    have z0 := hf2.cell 0
    have z1 := hf2.cell 1
    have zl := hf2.lt
    have y0 := hf2.free 0
    have y1 := hf2.free 1
    clear hw2 hb2 hf2
    have hz1i : (1 : Int) < (rs.size : Int) := by omega
    have hz2i : (2 : Int) < (rs.size : Int) := by omega
    clear hz3 hz3i
    have hwr : IntKind.i64.wrap (IntKind.i64.wrap (16 * valI x.toNat) + valI y.toNat) = 16 * valI x.toNat + valI y.toNat := by
      rw [Go.IntKind.wrap_i64, Go.IntKind.wrap_i64]
      omega
    have HS0 := hide (show RdS rb w.heap.size text ((n : Int) + 2 + 2) w w2.drew from ⟨HB2.out, HF2.out, HW2.out.drew, Nat.le_refl _⟩)
    go_region_held3 (fun W => Hid (RdS rb w.heap.size text ((n : Int) + 2 + 2) w W) ∧ W.cell? ⟨w.heap.size, 0, none⟩ = some (.int .i64 0) ∧ W.cell? ⟨w.heap.size, 1, none⟩ = some (.int .i64 0) ∧ W.frozen? ⟨w.heap.size, 0, none⟩ = false ∧ W.frozen? ⟨w.heap.size, 1, none⟩ = false)
      (first | assumption | exact ⟨HS0, HS0.out.c0, HS0.out.c1, HS0.out.f0, HS0.out.f1⟩ | exact RdS.all (RdS.store (Hid.out (And.left (by assumption))) HE.out))
      (first | (go_at_call 41; refine (dig_any _ _ (by assumption) (by assumption)).mono ?_; rintro e w' ⟨rfl, rfl⟩))
    all_goals
      have hfin : RdS rb w.heap.size text ((n : Int) + 2 + 2) w ((w2.setCell ⟨w.heap.size, 0, none⟩ (.int .i64 0)).setCell ⟨w.heap.size, 1, none⟩ (.int .i64 0)).drew := Hid.out (by first | assumption | exact And.left (by assumption))
      go_wp2_with fail
      refine ret40 (k := w.heap.size) (v := .int .i64 (16 * valI x.toNat + valI y.toNat)) ?_ rfl rfl hfin.2.1 ?_
      · rfl
      · exact ⟨rfl, by have := hfin.1; rw [show ((n : Int) + 2 + 2) = ((n + 4 : Nat) : Int) by omega] at this; exact this, hfin.2.2.1⟩
end Go.Proofs.Ytfngkdcjifdliaa
