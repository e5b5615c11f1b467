/- The walk of fits. -/
import Derived.Test.YtalicfpcmcbdbaaZRItems
import Derived.Test.YtalicfpcmcbdbaaZLook2
import Derived.Test.YtalicfpcmcbdbaaZCons
set_option linter.unusedVariables false
set_option linter.unusedSimpArgs false
set_option linter.unnecessarySimpa false
set_option linter.deprecated false
namespace Go.Proofs.Ytalicfpcmcbdbaa
open Go.RowKit

/-- A literal, or a hole, against the first of what is left. -/
def fOne (kd : Int) (t : ByteArray) (n : Int) (r : List Sy) (m : Int) : Option (List Sy × Int) :=
  match r with
  | [] => none
  | s :: r => if kd = 1 then (if s.kind = 1 ∧ s.text = t then some (r, m) else none) else (if s.kind = 1 ∨ n ≠ m + 1 then none else some (r, m + 1))
theorem fOne_le (kd : Int) (t : ByteArray) (n : Int) (r : List Sy) (m : Int) (p : List Sy × Int) (h : fOne kd t n r m = some p) : m ≤ p.2 ∧ p.2 + p.1.length ≤ m + r.length := by
  unfold fOne at h
  split at h
  · cases h
  · split at h
    · split at h
      · injection h with h; subst h; simp only [List.length_cons]; push_cast; omega
      · cases h
    · split at h
      · cases h
      · injection h with h; subst h; simp only [List.length_cons]; push_cast; omega
mutual
/-- What is left of a production's symbols behind an item, and the number of its holes (none: it does not fit). -/
def fI : It → List Sy → Int → Option (List Sy × Int)
  | .mk kd t n l, r, m =>
    if kd = 5 ∨ kd = 6 then (if 40 < n then none else fIs l r m)
    else if kd = 1 ∨ kd = 2 then fOne kd t n r m
    else some (r, m)
def fIs : List It → List Sy → Int → Option (List Sy × Int)
  | [], r, m => some (r, m)
  | x :: xs, r, m => match fI x r m with
    | none => none
    | some p => fIs xs p.1 p.2
end
theorem fI_le : ∀ (x : It) (r : List Sy) (m : Int) (p : List Sy × Int), fI x r m = some p → m ≤ p.2 ∧ p.2 + p.1.length ≤ m + r.length
  | .mk kd t n l, r, m, p, h => by
    rw [fI] at h
    split at h
    · split at h
      · cases h
      · exact fIs_le l r m p h
    · split at h
      · exact fOne_le kd t n r m p h
      · injection h with h; subst h; simp
where fIs_le : ∀ (l : List It) (r : List Sy) (m : Int) (p : List Sy × Int), fIs l r m = some p → m ≤ p.2 ∧ p.2 + p.1.length ≤ m + r.length
  | [], r, m, p, h => by rw [fIs] at h; injection h with h; subst h; simp
  | x :: xs, r, m, p, h => by
    rw [fIs] at h
    split at h
    · cases h
    · rename_i j hj
      have h1 := fI_le x r m j hj
      have h2 := fIs_le xs j.1 j.2 p h
      omega
/-- The two cells that fits writes. -/
structure FiC (w0 : World) (ks kn : Nat) (r : List Sy) (m : Int) (a : Option Addr) (c : Nat) (W : World) : Prop where
  b : Below w0.heap.size w0 W
  s : Blk W ks #[.slice a r.length c] 36
  n : Blk W kn #[.int .i64 m] 3
  rw_ : Row SyAt 8 r a w0
  cc : r.length ≤ c
/-- What fits answers. -/
def FIP (w0 : World) (ks kn : Nat) (res : Option (List Sy × Int)) (e : Ending) (w' : World) : Prop := (e = .returned (.bool res.isSome) ∧ Below w0.heap.size w0 w') ∧ ∀ r m, res = some (r, m) → ∃ a c, FiC w0 ks kn r m a c w'
structure FIw (w0 : World) (ks kn : Nat) (l : List It) (res : Option (List Sy × Int)) (k : Nat) (r : List Sy) (m : Int) (a : Option Addr) (c : Nat) (wr : World) : Prop where
  f : FiC w0 ks kn r m a c wr
  le : k ≤ l.length
  rr : fIs (l.drop k) r m = res
  m1 : 0 ≤ m
  m2 : m + r.length ≤ 1000000
set_option maxHeartbeats 1600000 in
set_option maxRecDepth 100000 in
theorem fits_all : ∀ (N : Nat) (l : List It), SizeOf.sizeOf l < N → ∀ (r0 : List Sy) (m0 : Int) (a0 : Option Addr) (c0 : Nat) (ai : Option Addr) (ci ks kn : Nat) (w0 w : World), Row ItAt 4 l ai w0 → w0.heap.size ≤ ks → w0.heap.size ≤ kn → ks ≠ kn → FiC w0 ks kn r0 m0 a0 c0 w → 0 ≤ m0 → m0 + r0.length ≤ 1000000 →
    Calls Try.prog 74 #[.slice ai l.length ci, .pointer (some ⟨ks, 0, none⟩), .pointer (some ⟨kn, 0, none⟩)] w (FIP w0 ks kn (fIs l r0 m0)) := by
  intro N
  induction N with
  | zero => intro l h; omega
  | succ N ih =>
  intro l hN r0 m0 a0 c0 ai ci ks kn w0 w hr hk1 hk2 hkk hf hm1 hm2
  have HR := hide hr
  have hln := hr.1
  have HIH := hide ih
  have HI0 := hide (show FIw w0 ks kn l (fIs l r0 m0) 0 r0 m0 a0 c0 w from ⟨hf, Nat.zero_le _, rfl, hm1, hm2⟩)
  have HK1 := hide hk1
  have HK2 := hide hk2
  obtain ⟨res, hres⟩ : ∃ r, fIs l r0 m0 = r := ⟨_, rfl⟩
  rw [hres] at HI0 ⊢
  have HN := hide hN
  have hkk2 := Ne.symm hkk
  clear hr ih hres hf hN hm1 hm2 hk1 hk2
  go_enter Try.func74, Try.ntmps74
  go_wp2_with fail
  go_loopg [12] l.length (fun u v12 wr => ∃ (k : Nat) (r : List Sy) (m : Int) (a : Option Addr) (c : Nat), Hid (u = l.length - k) ∧ v12 = .int .i64 (k : Int) ∧ Hid (FIw w0 ks kn l res k r m a c wr))
  case atStart => exact ⟨0, r0, m0, a0, c0, hide rfl, rfl, HI0⟩
  case round =>
    obtain ⟨k, r, m, a, c, hu, rfl, hh⟩ := hrel
    have hkl := hh.out.le
    have hm1 := hh.out.m1
    have hm2 := hh.out.m2
    by_cases hlt : k < l.length
    · have hlti : (k : Int) < (l.length : Int) := by omega
      obtain ⟨b, o, rfl, hb, hat⟩ := HR.out.get hlt
      have hx := hat k hlt
      have hrr := hh.out.rr
      rw [List.drop_eq_getElem_cons hlt] at hrr
      have hsz : SizeOf.sizeOf l[k].kids < N := by
        have h1 := sizeOf_kids l[k]
        have h2 := List.sizeOf_lt_of_mem (List.getElem_mem hlt)
        have := HN.out
        omega
      generalize l[k] = x at hx hrr hsz
      obtain ⟨kd, t, n, kids⟩ := x
      obtain ⟨⟨hkd, hst, hnn⟩, a2, c2, ⟨e0, e1, e2, e3⟩, hrow⟩ := hx.cells
      replace e0 : wr.cell? ⟨b, o + k * 4, none⟩ = some (.int .i64 kd) := (hh.out.f.b.cell (p := ⟨b, o + k * 4, none⟩) hb).trans e0
      replace e1 : wr.cell? ⟨b, o + k * 4 + 1, none⟩ = some (.string t) := (hh.out.f.b.cell (p := ⟨b, o + k * 4 + 1, none⟩) hb).trans e1
      replace e2 : wr.cell? ⟨b, o + k * 4 + 2, none⟩ = some (.int .i64 n) := (hh.out.f.b.cell (p := ⟨b, o + k * 4 + 2, none⟩) hb).trans e2
      replace e3 : wr.cell? ⟨b, o + k * 4 + 3, none⟩ = some (.slice a2 kids.length c2) := (hh.out.f.b.cell (p := ⟨b, o + k * 4 + 3, none⟩) hb).trans e3
      replace hrow : Row ItAt 4 kids a2 w0 := hrow
      replace hsz : SizeOf.sizeOf kids < N := hsz
      have hl2 := hrow.1
      rw [fIs, fI] at hrr
      have HRR := hide hrr
      have hbw : b < wr.heap.size := Nat.lt_of_lt_of_le hb hh.out.f.b.size
      have HF2 := hide (show FiC w0 ks kn r m a c (wr.alloc (.cells #[.int .i64 kd, .string t, .int .i64 n, .slice a2 kids.length c2] 96)) from ⟨hh.out.f.b.alloc hh.out.f.b.size _, hh.out.f.s.alloc _, hh.out.f.n.alloc _, hh.out.f.rw_, hh.out.f.cc⟩)
      have HX2 := hide (Blk.new wr #[.int .i64 kd, .string t, .int .i64 n, .slice a2 kids.length c2] 96)
      have HROW := hide hrow
      have HSZ := hide hsz
      have HNB := hide hnn
      clear hx hrr hrow hsz
      go_upto_region 4 with fail
      clear e0 e1 e2 e3 hb hbw
      generalize hw2 : wr.alloc (.cells #[.int .i64 kd, .string t, .int .i64 n, .slice a2 kids.length c2] 96) = w2 at HF2 HX2 ⊢
      obtain ⟨kx, hkx⟩ : ∃ kx, wr.heap.size = kx := ⟨_, rfl⟩
      rw [hkx] at HX2 ⊢
      have HKX := hide (show ks < kx ∧ kn < kx by rw [← hkx]; exact ⟨hh.out.f.s.lt, hh.out.f.n.lt⟩)
      clear hkx hw2
      have x0 := HX2.out.cell 0
      have x1 := HX2.out.cell 1
      have x2 := HX2.out.cell 2
      have x3 := HX2.out.cell 3
      have xl := HX2.out.lt
      by_cases h5 : kd = 5
      · subst h5
        by_cases h40 : 40 < n
        · have g40 : n > 40 := h40
          have HE := hide (show res = none by rw [← HRR.out]; simp [h40])
          clear HRR
          go_wp2_with fail
          go_ret
          exact ⟨⟨by rw [HE.out]; rfl, HF2.out.b⟩, fun r m h => by rw [HE.out] at h; cases h⟩
        · have g40 : ¬ n > 40 := h40
          have HE := hide (show (match fIs kids r m with | none => none | some p => fIs (l.drop (k + 1)) p.1 p.2) = res by rw [← HRR.out]; simp [h40])
          have HC := hide (HIH.out kids HSZ.out r m a c a2 c2 ks kn w0 w2 HROW.out HK1.out HK2.out hkk HF2.out hm1 hm2)
          obtain ⟨fr, hfr⟩ : ∃ fr, fIs kids r m = fr := ⟨_, rfl⟩
          rw [hfr] at HC HE
          have HFR := hide hfr
          clear HRR hfr h40
          go_wp2_with fail
          refine HC.out.mono ?_
          rintro e w5 ⟨⟨rfl, hb5⟩, hc5⟩
          have HB5 := hide hb5
          have HC5 := hide hc5
          clear hb5 hc5
          cases fr with
          | none =>
            go_wp2_with fail
            go_ret
            exact ⟨⟨by rw [← HE.out]; rfl, HB5.out⟩, fun r m h => by rw [← HE.out] at h; cases h⟩
          | some p =>
            obtain ⟨r5, m5⟩ := p
            obtain ⟨a5, c5, hf5⟩ := HC5.out r5 m5 rfl
            have HF5 := hide hf5
            have hle := fI_le.fIs_le kids r m _ HFR.out
            have HLE := hide hle
            clear hf5 hle
            go_wp2_with fail
            go_roundg (l.length - (k + 1))
            case measure => rw [hu.out]; omega
            case rel => exact ⟨k + 1, r5, m5, a5, c5, hide rfl, by go_num, hide ⟨HF5.out, hlt, HE.out, by have := HLE.out.1; omega, by have := HLE.out.2; omega⟩⟩
      by_cases h6 : kd = 6
      · subst h6
        by_cases h40 : 40 < n
        · have g40 : n > 40 := h40
          have HE := hide (show res = none by rw [← HRR.out]; simp [h40])
          clear HRR
          go_wp2_with fail
          go_ret
          exact ⟨⟨by rw [HE.out]; rfl, HF2.out.b⟩, fun r m h => by rw [HE.out] at h; cases h⟩
        · have g40 : ¬ n > 40 := h40
          have HE := hide (show (match fIs kids r m with | none => none | some p => fIs (l.drop (k + 1)) p.1 p.2) = res by rw [← HRR.out]; simp [h40])
          have HC := hide (HIH.out kids HSZ.out r m a c a2 c2 ks kn w0 w2 HROW.out HK1.out HK2.out hkk HF2.out hm1 hm2)
          obtain ⟨fr, hfr⟩ : ∃ fr, fIs kids r m = fr := ⟨_, rfl⟩
          rw [hfr] at HC HE
          have HFR := hide hfr
          clear HRR hfr h40
          go_wp2_with fail
          refine HC.out.mono ?_
          rintro e w5 ⟨⟨rfl, hb5⟩, hc5⟩
          have HB5 := hide hb5
          have HC5 := hide hc5
          clear hb5 hc5
          cases fr with
          | none =>
            go_wp2_with fail
            go_ret
            exact ⟨⟨by rw [← HE.out]; rfl, HB5.out⟩, fun r m h => by rw [← HE.out] at h; cases h⟩
          | some p =>
            obtain ⟨r5, m5⟩ := p
            obtain ⟨a5, c5, hf5⟩ := HC5.out r5 m5 rfl
            have HF5 := hide hf5
            have hle := fI_le.fIs_le kids r m _ HFR.out
            have HLE := hide hle
            clear hf5 hle
            go_wp2_with fail
            go_roundg (l.length - (k + 1))
            case measure => rw [hu.out]; omega
            case rel => exact ⟨k + 1, r5, m5, a5, c5, hide rfl, by go_num, hide ⟨HF5.out, hlt, HE.out, by have := HLE.out.1; omega, by have := HLE.out.2; omega⟩⟩
      by_cases h1 : kd = 1
      · subst h1
        cases r with
        | nil =>
          have HE := hide (show res = none by rw [← HRR.out]; simp [fOne])
          have s0 := HF2.out.s.cell 0
          have sl := HF2.out.s.lt
          clear HRR
          go_wp2_with fail
          go_ret
          exact ⟨⟨by rw [HE.out]; rfl, HF2.out.b⟩, fun r m h => by rw [HE.out] at h; cases h⟩
        | cons s r =>
          obtain ⟨bs, os, rfl, hbs, hats⟩ := HF2.out.rw_.get (k := 0) (by simp)
          have hs0 := hats 0 (by simp)
          rw [Nat.zero_mul, Nat.add_zero] at hs0
          obtain ⟨y0, y1, y2, y3, y4, y5, y6, y7⟩ := hs0.cells
          replace y0 := (HF2.out.b.cell (p := ⟨bs, os, none⟩) hbs).trans y0
          replace y1 := (HF2.out.b.cell (p := ⟨bs, os + 1, none⟩) hbs).trans y1
          replace y2 := (HF2.out.b.cell (p := ⟨bs, os + 2, none⟩) hbs).trans y2
          replace y3 := (HF2.out.b.cell (p := ⟨bs, os + 3, none⟩) hbs).trans y3
          replace y4 := (HF2.out.b.cell (p := ⟨bs, os + 4, none⟩) hbs).trans y4
          replace y5 := (HF2.out.b.cell (p := ⟨bs, os + 5, none⟩) hbs).trans y5
          replace y6 := (HF2.out.b.cell (p := ⟨bs, os + 6, none⟩) hbs).trans y6
          replace y7 := (HF2.out.b.cell (p := ⟨bs, os + 7, none⟩) hbs).trans y7
          have hbw := Nat.lt_of_lt_of_le hbs HF2.out.b.size
          have hbk : bs < ks := Nat.lt_of_lt_of_le hbs HK1.out
          have hbk1 : bs ≠ ks := by omega
          have hbk2 : ks ≠ bs := by omega
          have hbx : bs < kx := by have := HKX.out; omega
          have hcc := HF2.out.cc
          rw [List.length_cons] at hcc hm2
          have HTL := hide (show Row SyAt 8 r (if c = 1 then some ⟨bs, os, none⟩ else some ⟨bs, os + 8, none⟩) w0 from ⟨by have := HF2.out.rw_.1; simp at this; omega, fun hn => by
            have hl : 0 < r.length := List.length_pos_iff.2 hn
            rw [if_neg (by omega)]
            exact ⟨bs, os + 8, rfl, hbs, fun i hi => by have := hats (i + 1) (by simp; omega); rw [show os + (i + 1) * 8 = os + 8 + i * 8 by omega] at this; exact this⟩⟩)
          have s0 := HF2.out.s.cell 0
          have s1 := HF2.out.s.free 0
          have sl := HF2.out.s.lt
          have n0 := HF2.out.n.cell 0
          have n1 := HF2.out.n.free 0
          have nl := HF2.out.n.lt
          go_upto_region 15 with fail
          obtain ⟨ta, hta⟩ : ∃ ta, (if c = 1 then (some ⟨bs, os, none⟩ : Option Addr) else some ⟨bs, os + 8, none⟩) = ta := ⟨_, rfl⟩
          rw [hta] at HTL
          simp only [hta]
          clear hta
          obtain ⟨w3, hw3⟩ : ∃ w3, (w2.setCell ⟨ks, 0, none⟩ (.slice ta r.length (c - 1))).alloc (.cells #[.int .i64 s.kind, .string s.text, .int .u64 (s.set.w0 : Int), .int .u64 (s.set.w1 : Int), .int .u64 (s.set.w2 : Int), .int .u64 (s.set.w3 : Int), .string s.name, .string s.sep] 61) = w3 := ⟨_, rfl⟩
          obtain ⟨ky, hky⟩ : ∃ ky, w2.heap.size = ky := ⟨_, rfl⟩
          have hbs2 := HF2.out.b.setCell (p := ⟨ks, 0, none⟩) HK1.out (.slice ta r.length (c - 1))
          have HF3 := hide (show FiC w0 ks kn r m ta (c - 1) w3 by rw [← hw3]; exact ⟨hbs2.alloc hbs2.size _, (HF2.out.s.set 0 (.slice ta r.length (c - 1))).alloc _, (HF2.out.n.other hkk2).alloc _, HTL.out, by omega⟩)
          have hkxs : kx ≠ ks := by have := HKX.out; omega
          have HX3 := hide (show Blk w3 kx #[.int .i64 1, .string t, .int .i64 n, .slice a2 kids.length c2] 96 by rw [← hw3]; exact (HX2.out.other hkxs).alloc _)
          have HY3 := hide (show Blk w3 ky #[.int .i64 s.kind, .string s.text, .int .u64 (s.set.w0 : Int), .int .u64 (s.set.w1 : Int), .int .u64 (s.set.w2 : Int), .int .u64 (s.set.w3 : Int), .string s.name, .string s.sep] 61 by rw [← hw3, ← hky]; have := Blk.new (w2.setCell ⟨ks, 0, none⟩ (.slice ta r.length (c - 1))) #[.int .i64 s.kind, .string s.text, .int .u64 (s.set.w0 : Int), .int .u64 (s.set.w1 : Int), .int .u64 (s.set.w2 : Int), .int .u64 (s.set.w3 : Int), .string s.name, .string s.sep] 61; rw [size_setCell] at this; exact this)
          have hkny : kn ≠ ky := by omega
          have hkyn : ky ≠ kn := by omega
          have hknx : kn ≠ kx := by have := HKX.out; omega
          have hkxn : kx ≠ kn := by have := HKX.out; omega
          rw [hw3, hky]
          clear hw3 hky hbs2 x0 x1 x2 x3 xl y0 y1 y2 y3 y4 y5 y6 y7 s0 s1 sl n0 n1 nl hbw hbk hbk1 hbk2 hbx hs0 hats hbs
          have x0 := HX3.out.cell 0
          have x1 := HX3.out.cell 1
          have x2 := HX3.out.cell 2
          have x3 := HX3.out.cell 3
          have xl := HX3.out.lt
          have z0 := HY3.out.cell 0
          have z1 := HY3.out.cell 1
          have zl := HY3.out.lt
          have n0 := HF3.out.n.cell 0
          have n1 := HF3.out.n.free 0
          have nl := HF3.out.n.lt
          by_cases hs1 : s.kind = 1
          · have q1 : (s.kind == 1) = true := by simpa using hs1
            have q2 : (s.kind != 1) = false := by simpa using hs1
            by_cases ht : s.text = t
            · have ht1 : s.text.toList = t.toList := by rw [ht]
              have HE := hide (show fIs (l.drop (k + 1)) r m = res by rw [← HRR.out]; simp [fOne, hs1, ht])
              clear HRR hs1 ht
              go_wp2_with fail
              go_roundg (l.length - (k + 1))
              case measure => rw [hu.out]; omega
              case rel => exact ⟨k + 1, r, m, ta, c - 1, hide rfl, by go_num, hide ⟨HF3.out, hlt, HE.out, hm1, by omega⟩⟩
            · have ht1 : ¬ s.text.toList = t.toList := fun h => ht ((toList_eq_iff _ _).1 h)
              have ht2 : (!s.text.toList == t.toList) = true := by rw [beq_eq_false_iff_ne.2 ht1]; rfl
              have HE := hide (show res = none by rw [← HRR.out]; simp [fOne, hs1, ht])
              clear HRR hs1 ht
              go_wp2_with fail
              go_ret
              exact ⟨⟨by rw [HE.out]; rfl, HF3.out.b⟩, fun r m h => by rw [HE.out] at h; cases h⟩
          · have q1 : (s.kind == 1) = false := by simpa using hs1
            have q2 : (s.kind != 1) = true := by simpa using hs1
            have HE := hide (show res = none by rw [← HRR.out]; simp [fOne, hs1])
            clear HRR hs1
            go_wp2_with fail
            go_ret
            exact ⟨⟨by rw [HE.out]; rfl, HF3.out.b⟩, fun r m h => by rw [HE.out] at h; cases h⟩
      by_cases h2 : kd = 2
      · subst h2
        cases r with
        | nil =>
          have HE := hide (show res = none by rw [← HRR.out]; simp [fOne])
          have s0 := HF2.out.s.cell 0
          have sl := HF2.out.s.lt
          clear HRR
          go_wp2_with fail
          go_ret
          exact ⟨⟨by rw [HE.out]; rfl, HF2.out.b⟩, fun r m h => by rw [HE.out] at h; cases h⟩
        | cons s r =>
          obtain ⟨bs, os, rfl, hbs, hats⟩ := HF2.out.rw_.get (k := 0) (by simp)
          have hs0 := hats 0 (by simp)
          rw [Nat.zero_mul, Nat.add_zero] at hs0
          obtain ⟨y0, y1, y2, y3, y4, y5, y6, y7⟩ := hs0.cells
          replace y0 := (HF2.out.b.cell (p := ⟨bs, os, none⟩) hbs).trans y0
          replace y1 := (HF2.out.b.cell (p := ⟨bs, os + 1, none⟩) hbs).trans y1
          replace y2 := (HF2.out.b.cell (p := ⟨bs, os + 2, none⟩) hbs).trans y2
          replace y3 := (HF2.out.b.cell (p := ⟨bs, os + 3, none⟩) hbs).trans y3
          replace y4 := (HF2.out.b.cell (p := ⟨bs, os + 4, none⟩) hbs).trans y4
          replace y5 := (HF2.out.b.cell (p := ⟨bs, os + 5, none⟩) hbs).trans y5
          replace y6 := (HF2.out.b.cell (p := ⟨bs, os + 6, none⟩) hbs).trans y6
          replace y7 := (HF2.out.b.cell (p := ⟨bs, os + 7, none⟩) hbs).trans y7
          have hbw := Nat.lt_of_lt_of_le hbs HF2.out.b.size
          have hbk : bs < ks := Nat.lt_of_lt_of_le hbs HK1.out
          have hbk1 : bs ≠ ks := by omega
          have hbk2 : ks ≠ bs := by omega
          have hbx : bs < kx := by have := HKX.out; omega
          have hcc := HF2.out.cc
          rw [List.length_cons] at hcc hm2
          have HTL := hide (show Row SyAt 8 r (if c = 1 then some ⟨bs, os, none⟩ else some ⟨bs, os + 8, none⟩) w0 from ⟨by have := HF2.out.rw_.1; simp at this; omega, fun hn => by
            have hl : 0 < r.length := List.length_pos_iff.2 hn
            rw [if_neg (by omega)]
            exact ⟨bs, os + 8, rfl, hbs, fun i hi => by have := hats (i + 1) (by simp; omega); rw [show os + (i + 1) * 8 = os + 8 + i * 8 by omega] at this; exact this⟩⟩)
          have s0 := HF2.out.s.cell 0
          have s1 := HF2.out.s.free 0
          have sl := HF2.out.s.lt
          have n0 := HF2.out.n.cell 0
          have n1 := HF2.out.n.free 0
          have nl := HF2.out.n.lt
          go_upto_region 15 with fail
          obtain ⟨ta, hta⟩ : ∃ ta, (if c = 1 then (some ⟨bs, os, none⟩ : Option Addr) else some ⟨bs, os + 8, none⟩) = ta := ⟨_, rfl⟩
          rw [hta] at HTL
          simp only [hta]
          clear hta
          obtain ⟨w3, hw3⟩ : ∃ w3, (w2.setCell ⟨ks, 0, none⟩ (.slice ta r.length (c - 1))).alloc (.cells #[.int .i64 s.kind, .string s.text, .int .u64 (s.set.w0 : Int), .int .u64 (s.set.w1 : Int), .int .u64 (s.set.w2 : Int), .int .u64 (s.set.w3 : Int), .string s.name, .string s.sep] 61) = w3 := ⟨_, rfl⟩
          obtain ⟨ky, hky⟩ : ∃ ky, w2.heap.size = ky := ⟨_, rfl⟩
          have hbs2 := HF2.out.b.setCell (p := ⟨ks, 0, none⟩) HK1.out (.slice ta r.length (c - 1))
          have HF3 := hide (show FiC w0 ks kn r m ta (c - 1) w3 by rw [← hw3]; exact ⟨hbs2.alloc hbs2.size _, (HF2.out.s.set 0 (.slice ta r.length (c - 1))).alloc _, (HF2.out.n.other hkk2).alloc _, HTL.out, by omega⟩)
          have hkxs : kx ≠ ks := by have := HKX.out; omega
          have HX3 := hide (show Blk w3 kx #[.int .i64 2, .string t, .int .i64 n, .slice a2 kids.length c2] 96 by rw [← hw3]; exact (HX2.out.other hkxs).alloc _)
          have HY3 := hide (show Blk w3 ky #[.int .i64 s.kind, .string s.text, .int .u64 (s.set.w0 : Int), .int .u64 (s.set.w1 : Int), .int .u64 (s.set.w2 : Int), .int .u64 (s.set.w3 : Int), .string s.name, .string s.sep] 61 by rw [← hw3, ← hky]; have := Blk.new (w2.setCell ⟨ks, 0, none⟩ (.slice ta r.length (c - 1))) #[.int .i64 s.kind, .string s.text, .int .u64 (s.set.w0 : Int), .int .u64 (s.set.w1 : Int), .int .u64 (s.set.w2 : Int), .int .u64 (s.set.w3 : Int), .string s.name, .string s.sep] 61; rw [size_setCell] at this; exact this)
          have hkny : kn ≠ ky := by omega
          have hkyn : ky ≠ kn := by omega
          have hknx : kn ≠ kx := by have := HKX.out; omega
          have hkxn : kx ≠ kn := by have := HKX.out; omega
          rw [hw3, hky]
          clear hw3 hky hbs2 x0 x1 x2 x3 xl y0 y1 y2 y3 y4 y5 y6 y7 s0 s1 sl n0 n1 nl hbw hbk hbk1 hbk2 hbx hs0 hats hbs
          have x0 := HX3.out.cell 0
          have x1 := HX3.out.cell 1
          have x2 := HX3.out.cell 2
          have x3 := HX3.out.cell 3
          have xl := HX3.out.lt
          have z0 := HY3.out.cell 0
          have z1 := HY3.out.cell 1
          have zl := HY3.out.lt
          have n0 := HF3.out.n.cell 0
          have n1 := HF3.out.n.free 0
          have nl := HF3.out.n.lt
          go_upto_region 19 with fail
          obtain ⟨w4, hw4⟩ : ∃ w4, w3.setCell ⟨kn, 0, none⟩ (.int .i64 (m + 1)) = w4 := ⟨_, rfl⟩
          have HF4 := hide (show FiC w0 ks kn r (m + 1) ta (c - 1) w4 by rw [← hw4]; exact ⟨HF3.out.b.setCell (p := ⟨kn, 0, none⟩) HK2.out _, HF3.out.s.other hkk, HF3.out.n.set 0 _, HF3.out.rw_, HF3.out.cc⟩)
          have HX4 := hide (show Blk w4 kx #[.int .i64 2, .string t, .int .i64 n, .slice a2 kids.length c2] 96 by rw [← hw4]; exact HX3.out.other hkxn)
          have HY4 := hide (show Blk w4 ky #[.int .i64 s.kind, .string s.text, .int .u64 (s.set.w0 : Int), .int .u64 (s.set.w1 : Int), .int .u64 (s.set.w2 : Int), .int .u64 (s.set.w3 : Int), .string s.name, .string s.sep] 61 by rw [← hw4]; exact HY3.out.other hkyn)
          rw [hw4]
          clear hw4 x0 x1 x2 x3 xl z0 z1 zl n0 n1 nl
          have x2 := HX4.out.cell 2
          have xl := HX4.out.lt
          have z0 := HY4.out.cell 0
          have zl := HY4.out.lt
          have n0 := HF4.out.n.cell 0
          have nl := HF4.out.n.lt
          by_cases hs1 : s.kind = 1
          · have q1 : (s.kind == 1) = true := by simpa using hs1
            have HE := hide (show res = none by rw [← HRR.out]; simp [fOne, hs1])
            clear HRR hs1
            go_quiet (fail)
            go_wp2_with fail
            go_ret
            exact ⟨⟨by rw [HE.out]; rfl, HF4.out.b.trans ⟨rfl, rfl, rfl, Nat.le_refl _, fun _ _ => rfl⟩⟩, fun r m h => by rw [HE.out] at h; cases h⟩
          · have q1 : (s.kind == 1) = false := by simpa using hs1
            by_cases hnm : n = m + 1
            · have hn2 : (n == m + 1) = true := by simpa using hnm
              have hn3 : (n != m + 1) = false := by simpa using hnm
              have HE := hide (show fIs (l.drop (k + 1)) r (m + 1) = res by rw [← HRR.out]; simp [fOne, hs1, hnm])
              clear HRR hs1
              go_quiet (fail)
              go_wp2_with fail
              go_roundg (l.length - (k + 1))
              case measure => rw [hu.out]; omega
              case rel => exact ⟨k + 1, r, m + 1, ta, c - 1, hide rfl, by go_num, hide ⟨⟨HF4.out.b.trans ⟨rfl, rfl, rfl, Nat.le_refl _, fun _ _ => rfl⟩, HF4.out.s, HF4.out.n, HF4.out.rw_, HF4.out.cc⟩, hlt, HE.out, by omega, by omega⟩⟩
            · have hn2 : (n == m + 1) = false := by simpa using hnm
              have hn3 : (n != m + 1) = true := by simpa using hnm
              have HE := hide (show res = none by rw [← HRR.out]; simp [fOne, hs1, hnm])
              clear HRR hs1
              go_quiet (fail)
              go_wp2_with fail
              go_ret
              exact ⟨⟨by rw [HE.out]; rfl, HF4.out.b.trans ⟨rfl, rfl, rfl, Nat.le_refl _, fun _ _ => rfl⟩⟩, fun r m h => by rw [HE.out] at h; cases h⟩
      have n5 : (kd == 5) = false := by simpa using h5
      have n6 : (kd == 6) = false := by simpa using h6
      have n1 : (kd == 1) = false := by simpa using h1
      have n2 : (kd == 2) = false := by simpa using h2
      have HE := hide (show fIs (l.drop (k + 1)) r m = res by rw [← HRR.out]; simp [h1, h2, h5, h6])
      clear HRR h1 h2 h5 h6
      go_wp2_with fail
      go_roundg (l.length - (k + 1))
      case measure => rw [hu.out]; omega
      case rel => exact ⟨k + 1, r, m, a, c, hide rfl, by go_num, hide ⟨HF2.out, hlt, HE.out, hm1, hm2⟩⟩
    · have hlti : ¬ (k : Int) < (l.length : Int) := by omega
      have hrr := hh.out.rr
      rw [List.drop_eq_nil_of_le (by omega), fIs] at hrr
      have HRR := hide hrr
      clear hrr
      go_wp2_with fail
      go_ret
      refine ⟨⟨by rw [← HRR.out]; rfl, hh.out.f.b⟩, fun r m h => ?_⟩
      rw [← HRR.out] at h
      injection h with h
      injection h with h1 h2
      subst h1; subst h2
      exact ⟨a, c, hh.out.f⟩
end Go.Proofs.Ytalicfpcmcbdbaa
