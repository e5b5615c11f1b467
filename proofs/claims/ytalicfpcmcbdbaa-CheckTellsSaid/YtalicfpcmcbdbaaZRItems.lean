/- The walk of rightItems. -/
import Derived.Test.YtalicfpcmcbdbaaZNames
import Derived.Outline
set_option linter.unusedVariables false
set_option linter.unusedSimpArgs false
set_option linter.unnecessarySimpa false
set_option linter.deprecated false
namespace Go.Proofs.Ytalicfpcmcbdbaa
open Go.RowKit

def numB (n : Int) : Bool := decide (0 ≤ n) && decide (n ≤ 999999)
/-- Is an item right, but for what is in it? -/
def okIt (kd : Int) (t : ByteArray) (n : Int) (kids : List It) : Bool :=
  if kd = 1 then decide (t.size ≤ 32) && decide (n = 0) && decide (kids.length = 0)
  else if kd = 2 then emp t && numB n && decide (kids.length = 0)
  else if kd = 3 ∨ kd = 4 then emp t && decide (n = 0) && decide (kids.length = 0)
  else if kd = 5 then emp t && numB n
  else if kd = 6 then emp t && decide (n = 0)
  else false
mutual
/-- How many items there may be more behind an item (none: it is wrong). -/
def rI : It → Int → Option Int
  | .mk kd t n l, m => if okIt kd t n l = true ∧ 0 ≤ m - 1 then rIs l (m - 1) else none
def rIs : List It → Int → Option Int
  | [], m => some m
  | x :: xs, m => match rI x m with
    | none => none
    | some k => rIs xs k
end
theorem rI_le : ∀ (x : It) (m k : Int), rI x m = some k → k ≤ m ∧ 0 ≤ k
  | .mk kd t n l, m, k, h => by
    rw [rI] at h
    split at h
    · rename_i h2
      have := rIs_le l (m - 1) k h
      omega
    · cases h
where rIs_le : ∀ (l : List It) (m k : Int), rIs l m = some k → k ≤ m ∧ (0 ≤ m → 0 ≤ k)
  | [], m, k, h => by rw [rIs] at h; injection h with h; omega
  | x :: xs, m, k, h => by
    rw [rIs] at h
    split at h
    · cases h
    · rename_i j hj
      have h1 := rI_le x m j hj
      have h2 := rIs_le xs j k h
      omega
/-- What rightItems answers. -/
def RIP (w0 : World) (q : Nat) (res : Option Int) (e : Ending) (w' : World) : Prop := (e = .returned (.bool res.isSome) ∧ Below w0.heap.size w0 w') ∧ ∀ m, res = some m → Blk w' q #[.int .i64 m] 3
structure RIw (w0 : World) (q : Nat) (l : List It) (res : Option Int) (k : Nat) (m : Int) (wr : World) : Prop where
  b : Below w0.heap.size w0 wr
  q : Blk wr q #[.int .i64 m] 3
  le : k ≤ l.length
  r : rIs (l.drop k) m = res
  m1 : m ≤ 64
  m2 : -64 ≤ m
theorem sizeOf_kids (x : It) : SizeOf.sizeOf x.kids < SizeOf.sizeOf x := by
  obtain ⟨k, t, n, l⟩ := x
  show SizeOf.sizeOf l < SizeOf.sizeOf (It.mk k t n l)
  rw [It.mk.sizeOf_spec]
  omega

set_option maxHeartbeats 8000000 in
set_option maxRecDepth 100000 in
theorem rightItems_all : ∀ (N : Nat) (l : List It), SizeOf.sizeOf l < N → ∀ (m0 : Int) (a : Option Addr) (c q : Nat) (w0 w : World), Row ItAt 4 l a w0 → Below w0.heap.size w0 w → w0.heap.size ≤ q → Blk w q #[.int .i64 m0] 3 → m0 ≤ 64 → 0 ≤ m0 →
    Calls Try.prog 87 #[.slice a l.length c, .pointer (some ⟨q, 0, none⟩)] w (RIP w0 q (rIs l m0)) := by
  intro N
  induction N with
  | zero => intro l h; omega
  | succ N ih =>
  intro l hN m0 a c q w0 w hr hb hq0 hq hm1 hm2
  have HR := hide hr
  have hln := hr.1
  have HIH := hide ih
  have HI0 := hide (show RIw w0 q l (rIs l m0) 0 m0 w from ⟨hb, hq, Nat.zero_le _, rfl, hm1, by omega⟩)
  have HQ0 := hide hq0
  obtain ⟨res, hres⟩ : ∃ r, rIs l m0 = r := ⟨_, rfl⟩
  rw [hres] at HI0 ⊢
  have HN := hide hN
  clear hr ih hres hb hq0 hq hN hm1 hm2
  go_enter Try.func87, Try.ntmps87
  go_wp2_with fail
  go_loopg [11] l.length (fun u v11 wr => ∃ (k : Nat) (m : Int), Hid (u = l.length - k) ∧ v11 = .int .i64 (k : Int) ∧ Hid (RIw w0 q l res k m wr))
  case atStart => exact ⟨0, m0, hide rfl, rfl, HI0⟩
  case round =>
    obtain ⟨k, m, hu, rfl, hh⟩ := hrel
    have hkl := hh.out.le
    have hm1 := hh.out.m1
    have hm2 := hh.out.m2
    by_cases hlt : k < l.length
    · have hlti : (k : Int) < (l.length : Int) := by omega
      obtain ⟨b, o, rfl, hb, hat⟩ := HR.out.get hlt
      have hx := hat k hlt
      have hrr := hh.out.r
      rw [List.drop_eq_getElem_cons hlt] at hrr
      have hsz : SizeOf.sizeOf l[k].kids < N := by
        have h1 := sizeOf_kids l[k]
        have h2 := List.sizeOf_lt_of_mem (List.getElem_mem hlt)
        have := HN.out
        omega
      generalize l[k] = x at hx hrr hsz
      obtain ⟨kd, t, n, kids⟩ := x
      obtain ⟨⟨hkd, hst, hnn⟩, a2, c2, ⟨e0, e1, e2, e3⟩, hrow⟩ := hx.cells
      replace e0 : wr.cell? ⟨b, o + k * 4, none⟩ = some (.int .i64 kd) := (hh.out.b.cell (p := ⟨b, o + k * 4, none⟩) hb).trans e0
      replace e1 : wr.cell? ⟨b, o + k * 4 + 1, none⟩ = some (.string t) := (hh.out.b.cell (p := ⟨b, o + k * 4 + 1, none⟩) hb).trans e1
      replace e2 : wr.cell? ⟨b, o + k * 4 + 2, none⟩ = some (.int .i64 n) := (hh.out.b.cell (p := ⟨b, o + k * 4 + 2, none⟩) hb).trans e2
      replace e3 : wr.cell? ⟨b, o + k * 4 + 3, none⟩ = some (.slice a2 kids.length c2) := (hh.out.b.cell (p := ⟨b, o + k * 4 + 3, none⟩) hb).trans e3
      replace hrow : Row ItAt 4 kids a2 w0 := hrow
      replace hsz : SizeOf.sizeOf kids < N := hsz
      have hl2 := hrow.1
      rw [rIs, rI] at hrr
      have HRR := hide hrr
      have q0 := hh.out.q.cell 0
      have q1 := hh.out.q.free 0
      have ql := hh.out.q.lt
      have hne : q ≠ wr.heap.size := by omega
      have hne2 : wr.heap.size ≠ q := by omega
      have hbs := hh.out.b.setCell (p := ⟨q, 0, none⟩) HQ0.out (.int .i64 (m - 1))
      have HB2 := hide (hbs.alloc hbs.size (.cells #[.int .i64 kd, .string t, .int .i64 n, .slice a2 kids.length c2] 96))
      have HQ2 := hide ((hh.out.q.set 0 (.int .i64 (m - 1))).alloc (.cells #[.int .i64 kd, .string t, .int .i64 n, .slice a2 kids.length c2] 96))
      have HX2 := hide (show Blk ((wr.setCell ⟨q, 0, none⟩ (.int .i64 (m - 1))).alloc (.cells #[.int .i64 kd, .string t, .int .i64 n, .slice a2 kids.length c2] 96)) wr.heap.size #[.int .i64 kd, .string t, .int .i64 n, .slice a2 kids.length c2] 96 by have := Blk.new (wr.setCell ⟨q, 0, none⟩ (.int .i64 (m - 1))) #[.int .i64 kd, .string t, .int .i64 n, .slice a2 kids.length c2] 96; rw [size_setCell] at this; exact this)
      clear hbs
      have HROW := hide hrow
      have HSZ := hide hsz
      clear hx hrr hrow hsz
      go_upto_region 5 with fail
      clear e0 e1 e2 e3 q0 q1 ql hb hne hne2
      generalize hw2 : (wr.setCell ⟨q, 0, none⟩ (.int .i64 (m - 1))).alloc (.cells #[.int .i64 kd, .string t, .int .i64 n, .slice a2 kids.length c2] 96) = w2 at HB2 HQ2 HX2 ⊢
      obtain ⟨kx, hkx⟩ : ∃ kx, wr.heap.size = kx := ⟨_, rfl⟩
      rw [hkx] at HX2 ⊢
      clear hkx hw2
      have x0 := HX2.out.cell 0
      have x1 := HX2.out.cell 1
      have x2 := HX2.out.cell 2
      have x3 := HX2.out.cell 3
      have xl := HX2.out.lt
      go_cut [7] from 20 to 27 (fun v7 wc => v7 = .bool (numB n) ∧ w2 = wc)
      case first =>
        by_cases hn0 : 0 ≤ n
        case neg =>
          have hn0d : decide (0 ≤ n) = false := decide_eq_false hn0
          have HO := hide (show numB n = false by unfold numB; rw [hn0d]; rfl)
          clear hn0
          go_wp2_with fail
          go_meet
          exact ⟨by rw [HO.out], rfl⟩
        have hn0d : decide (0 ≤ n) = true := decide_eq_true hn0
        by_cases hn9 : n ≤ 999999
        case neg =>
          have hn9d : decide (n ≤ 999999) = false := decide_eq_false hn9
          have HO := hide (show numB n = false by unfold numB; rw [hn0d, hn9d]; rfl)
          clear hn0 hn9
          go_wp2_with fail
          go_meet
          exact ⟨by rw [HO.out]; try rfl, rfl⟩
        have hn9d : decide (n ≤ 999999) = true := decide_eq_true hn9
        have HO := hide (show numB n = true by unfold numB; rw [hn0d, hn9d]; rfl)
        clear hn0 hn9
        go_wp2_with fail
        go_meet
        exact ⟨by rw [HO.out]; try rfl, rfl⟩
      case rest =>
        obtain ⟨rfl, rfl⟩ := hcut
        obtain ⟨nb, hnb⟩ : ∃ b, numB n = b := ⟨_, rfl⟩
        have HNB := hide hnb
        rw [hnb]
        clear hnb
        go_upto_block 2 with fail
        go_cut [8] from 28 to 95 (fun v8 wc => v8 = .bool (okIt kd t n kids) ∧ w2 = wc)
        case first =>
          by_cases h1 : kd = 1
          · subst h1
            by_cases hst : t.size ≤ 32
            · have hit : (t.size : Int) ≤ 32 := by omega
              have Hst := hide hst
              clear hst
              by_cases hnz : n = 0
              · have hnd : (n == 0) = true := by simpa using hnz
                have HNZ := hide hnz
                clear hnz
                by_cases hkz : kids.length = 0
                · have hkdd : ((kids.length : Int) == 0) = true := by simpa using hkz
                  have HKZ := hide hkz
                  clear hkz
                  have HO := hide (show okIt 1 t n kids = true by unfold okIt; simp [Hst.out, HNZ.out, HKZ.out])
                  go_wp2_with fail
                  go_meet
                  exact ⟨by rw [HO.out]; try rfl, rfl⟩
                · have hkdd : ((kids.length : Int) == 0) = false := by simpa using hkz
                  have HKZ := hide hkz
                  clear hkz
                  have HO := hide (show okIt 1 t n kids = false by unfold okIt; simp [Hst.out, HNZ.out, HKZ.out])
                  go_wp2_with fail
                  go_meet
                  exact ⟨by rw [HO.out]; try rfl, rfl⟩
              · have hnd : (n == 0) = false := by simpa using hnz
                have HNZ := hide hnz
                clear hnz
                have HO := hide (show okIt 1 t n kids = false by unfold okIt; simp [Hst.out, HNZ.out])
                go_wp2_with fail
                go_meet
                exact ⟨by rw [HO.out]; try rfl, rfl⟩
            · have hit : ¬ (t.size : Int) ≤ 32 := by omega
              have hjt : decide ((t.size : Int) ≤ 32) = false := decide_eq_false hit
              have Hst := hide hst
              clear hst
              have HO := hide (show okIt 1 t n kids = false by unfold okIt; simp [Hst.out])
              go_wp2_with fail
              go_meet
              exact ⟨by rw [HO.out]; try rfl, rfl⟩
          by_cases h2 : kd = 2
          · subst h2
            rcases emp_or t with ⟨bt, zt, yt, vt, xt⟩ | ⟨bt, zt, yt, vt, xt⟩
            · skip
              cases nb
              case false =>
                have HO := hide (show okIt 2 t n kids = false by unfold okIt; simp [zt.out, HNB.out])
                go_wp2_with fail
                go_meet
                exact ⟨by rw [HO.out]; try rfl, rfl⟩
              case true =>
                by_cases hkz : kids.length = 0
                · have hkdd : ((kids.length : Int) == 0) = true := by simpa using hkz
                  have HKZ := hide hkz
                  clear hkz
                  have HO := hide (show okIt 2 t n kids = true by unfold okIt; simp [zt.out, HNB.out, HKZ.out])
                  go_wp2_with fail
                  go_meet
                  exact ⟨by rw [HO.out]; try rfl, rfl⟩
                · have hkdd : ((kids.length : Int) == 0) = false := by simpa using hkz
                  have HKZ := hide hkz
                  clear hkz
                  have HO := hide (show okIt 2 t n kids = false by unfold okIt; simp [zt.out, HNB.out, HKZ.out])
                  go_wp2_with fail
                  go_meet
                  exact ⟨by rw [HO.out]; try rfl, rfl⟩
            · skip
              have HO := hide (show okIt 2 t n kids = false by unfold okIt; simp [zt.out])
              go_wp2_with fail
              go_meet
              exact ⟨by rw [HO.out]; try rfl, rfl⟩
          by_cases h3 : kd = 3
          · subst h3
            rcases emp_or t with ⟨bt, zt, yt, vt, xt⟩ | ⟨bt, zt, yt, vt, xt⟩
            · skip
              by_cases hnz : n = 0
              · have hnd : (n == 0) = true := by simpa using hnz
                have HNZ := hide hnz
                clear hnz
                by_cases hkz : kids.length = 0
                · have hkdd : ((kids.length : Int) == 0) = true := by simpa using hkz
                  have HKZ := hide hkz
                  clear hkz
                  have HO := hide (show okIt 3 t n kids = true by unfold okIt; simp [zt.out, HNZ.out, HKZ.out])
                  go_wp2_with fail
                  go_meet
                  exact ⟨by rw [HO.out]; try rfl, rfl⟩
                · have hkdd : ((kids.length : Int) == 0) = false := by simpa using hkz
                  have HKZ := hide hkz
                  clear hkz
                  have HO := hide (show okIt 3 t n kids = false by unfold okIt; simp [zt.out, HNZ.out, HKZ.out])
                  go_wp2_with fail
                  go_meet
                  exact ⟨by rw [HO.out]; try rfl, rfl⟩
              · have hnd : (n == 0) = false := by simpa using hnz
                have HNZ := hide hnz
                clear hnz
                have HO := hide (show okIt 3 t n kids = false by unfold okIt; simp [zt.out, HNZ.out])
                go_wp2_with fail
                go_meet
                exact ⟨by rw [HO.out]; try rfl, rfl⟩
            · skip
              have HO := hide (show okIt 3 t n kids = false by unfold okIt; simp [zt.out])
              go_wp2_with fail
              go_meet
              exact ⟨by rw [HO.out]; try rfl, rfl⟩
          by_cases h4 : kd = 4
          · subst h4
            rcases emp_or t with ⟨bt, zt, yt, vt, xt⟩ | ⟨bt, zt, yt, vt, xt⟩
            · skip
              by_cases hnz : n = 0
              · have hnd : (n == 0) = true := by simpa using hnz
                have HNZ := hide hnz
                clear hnz
                by_cases hkz : kids.length = 0
                · have hkdd : ((kids.length : Int) == 0) = true := by simpa using hkz
                  have HKZ := hide hkz
                  clear hkz
                  have HO := hide (show okIt 4 t n kids = true by unfold okIt; simp [zt.out, HNZ.out, HKZ.out])
                  go_wp2_with fail
                  go_meet
                  exact ⟨by rw [HO.out]; try rfl, rfl⟩
                · have hkdd : ((kids.length : Int) == 0) = false := by simpa using hkz
                  have HKZ := hide hkz
                  clear hkz
                  have HO := hide (show okIt 4 t n kids = false by unfold okIt; simp [zt.out, HNZ.out, HKZ.out])
                  go_wp2_with fail
                  go_meet
                  exact ⟨by rw [HO.out]; try rfl, rfl⟩
              · have hnd : (n == 0) = false := by simpa using hnz
                have HNZ := hide hnz
                clear hnz
                have HO := hide (show okIt 4 t n kids = false by unfold okIt; simp [zt.out, HNZ.out])
                go_wp2_with fail
                go_meet
                exact ⟨by rw [HO.out]; try rfl, rfl⟩
            · skip
              have HO := hide (show okIt 4 t n kids = false by unfold okIt; simp [zt.out])
              go_wp2_with fail
              go_meet
              exact ⟨by rw [HO.out]; try rfl, rfl⟩
          by_cases h5 : kd = 5
          · subst h5
            rcases emp_or t with ⟨bt, zt, yt, vt, xt⟩ | ⟨bt, zt, yt, vt, xt⟩
            · skip
              cases nb
              case false =>
                have HO := hide (show okIt 5 t n kids = false by unfold okIt; simp [zt.out, HNB.out])
                go_wp2_with fail
                go_meet
                exact ⟨by rw [HO.out]; try rfl, rfl⟩
              case true =>
                have HO := hide (show okIt 5 t n kids = true by unfold okIt; simp [zt.out, HNB.out])
                go_wp2_with fail
                go_meet
                exact ⟨by rw [HO.out]; try rfl, rfl⟩
            · skip
              have HO := hide (show okIt 5 t n kids = false by unfold okIt; simp [zt.out])
              go_wp2_with fail
              go_meet
              exact ⟨by rw [HO.out]; try rfl, rfl⟩
          by_cases h6 : kd = 6
          · subst h6
            rcases emp_or t with ⟨bt, zt, yt, vt, xt⟩ | ⟨bt, zt, yt, vt, xt⟩
            · skip
              by_cases hnz : n = 0
              · have hnd : (n == 0) = true := by simpa using hnz
                have HNZ := hide hnz
                clear hnz
                have HO := hide (show okIt 6 t n kids = true by unfold okIt; simp [zt.out, HNZ.out])
                go_wp2_with fail
                go_meet
                exact ⟨by rw [HO.out]; try rfl, rfl⟩
              · have hnd : (n == 0) = false := by simpa using hnz
                have HNZ := hide hnz
                clear hnz
                have HO := hide (show okIt 6 t n kids = false by unfold okIt; simp [zt.out, HNZ.out])
                go_wp2_with fail
                go_meet
                exact ⟨by rw [HO.out]; try rfl, rfl⟩
            · skip
              have HO := hide (show okIt 6 t n kids = false by unfold okIt; simp [zt.out])
              go_wp2_with fail
              go_meet
              exact ⟨by rw [HO.out]; try rfl, rfl⟩
          have n1 : (kd == 1) = false := by simpa using h1
          have n2 : (kd == 2) = false := by simpa using h2
          have n3 : (kd == 3) = false := by simpa using h3
          have n4 : (kd == 4) = false := by simpa using h4
          have n5 : (kd == 5) = false := by simpa using h5
          have n6 : (kd == 6) = false := by simpa using h6
          have HK := hide (And.intro h1 (And.intro h2 (And.intro h3 (And.intro h4 (And.intro h5 h6)))))
          clear h1 h2 h3 h4 h5 h6
          have HO := hide (show okIt kd t n kids = false by unfold okIt; simp [HK.out.1, HK.out.2.1, HK.out.2.2.1, HK.out.2.2.2.1, HK.out.2.2.2.2.1, HK.out.2.2.2.2.2])
          go_wp2_with fail
          go_meet
          exact ⟨by rw [HO.out]; try rfl, rfl⟩
        case rest =>
          obtain ⟨rfl, rfl⟩ := hcut
          have q0 : w2.cell? ⟨q, 0, none⟩ = some (.int .i64 (m - 1)) := HQ2.out.cell 0
          have ql := HQ2.out.lt
          have x3 : w2.cell? ⟨kx, 3, none⟩ = some (.slice a2 kids.length c2) := HX2.out.cell 3
          have xl := HX2.out.lt
          cases hok : okIt kd t n kids with
          | false =>
            have HF := hide (show res = none by rw [← HRR.out, hok, if_neg (by simp)])
            clear hok
            go_wp2_with fail
            go_ret
            exact ⟨⟨by rw [HF.out]; rfl, HB2.out⟩, fun m h => by rw [HF.out] at h; cases h⟩
          | true =>
            by_cases hneg : m - 1 < 0
            · have hnd : decide (m - 1 < 0) = true := decide_eq_true hneg
              have HF := hide (show res = none by rw [← HRR.out, hok, if_neg (by omega)])
              clear hok
              go_wp2_with fail
              go_ret
              exact ⟨⟨by rw [HF.out]; rfl, HB2.out⟩, fun m h => by rw [HF.out] at h; cases h⟩
            have hnd : decide (m - 1 < 0) = false := decide_eq_false hneg
            have HC := hide (HIH.out kids HSZ.out (m - 1) a2 c2 q w0 w2 HROW.out HB2.out HQ0.out HQ2.out (by omega) (by omega))
            have hrr := HRR.out
            rw [hok, if_pos ⟨rfl, by omega⟩] at hrr
            cases hk : rIs kids (m - 1) with
            | none =>
              rw [hk] at HC hrr
              have HF := hide (show res = none from hrr.symm)
              clear hok hrr hk
              go_wp2_with (go_at_call 87; refine HC.out.mono ?_; rintro e w' ⟨⟨rfl, hb'⟩, hm⟩)
              go_ret
              exact ⟨⟨by rw [HF.out]; rfl, hb'⟩, fun m h => by rw [HF.out] at h; cases h⟩
            | some m2 =>
              have hle := rI_le.rIs_le kids (m - 1) m2 hk
              rw [hk] at HC hrr
              have HRES := hide (show rIs (l.drop (k + 1)) m2 = res from hrr)
              clear hok hrr hk
              go_wp2_with (go_at_call 87; refine HC.out.mono ?_; rintro e w' ⟨⟨rfl, hb'⟩, hm⟩; have HM := hide (hm m2 rfl); clear hm)
              go_roundg (l.length - (k + 1))
              case measure => rw [hu.out]; omega
              case rel => exact ⟨k + 1, m2, hide rfl, by go_num, hide ⟨hb', HM.out, hlt, HRES.out, by omega, by omega⟩⟩
    · have hlti : ¬ (k : Int) < (l.length : Int) := by omega
      have hrr := hh.out.r
      rw [List.drop_eq_nil_of_le (by omega), rIs] at hrr
      have HF := hide hrr
      clear hrr
      go_wp2_with fail
      go_ret
      exact ⟨⟨by rw [← HF.out]; rfl, hh.out.b⟩, fun m2 h => by rw [← HF.out] at h; injection h with h; subst h; exact hh.out.q⟩
end Go.Proofs.Ytalicfpcmcbdbaa
