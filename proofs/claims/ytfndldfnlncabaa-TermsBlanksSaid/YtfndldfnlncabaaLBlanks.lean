/- The law TermsBlanks, walked. -/
import Derived.Test.YtfndldfnlncabaaLBack
import Derived.Test.YtfndldfnlncabaaPath
import Derived.Test.YtfndldfnlncabaaEven
import Derived.Test.YtfndldfnlncabaaRQuote
set_option linter.unusedVariables false
set_option linter.unusedSimpArgs false
set_option linter.unnecessarySimpa false
set_option linter.deprecated false
namespace Go.Proofs.Ytfndldfnlncabaa
open Go.RowKit

/-- The buffer holds bytes; the box stands. -/
structure BB (w : World) (A : Array Value) (v : Value) (acc : List UInt8) (wr : World) : Prop where
  buf : Buf w v acc wr
  box : Blk wr w.heap.size A 25
theorem BB.push {w wr w2 : World} {A : Array Value} {v v' : Value} {acc : List UInt8} (h : BB w A v acc wr) (x : UInt8) {o : Obj} {m : Nat} {vx : Value}
    (ho : w2.ownsRow w.heap.size 5 1 v' m (Lib.byteCells acc ++ [vx])) (hg : (wr.alloc o).grownBy w2 v.ownBlock) (hm : m = acc.length + 1) (hvx : vx = .int .u8 (x.toNat : Int)) : BB w A v' (acc ++ [x]) w2 := by
  subst hm hvx
  exact ⟨h.buf.push (nb := [x]) ((Below.refl _ _).alloc (Nat.le_refl _) _) ho hg, (h.box.alloc o).grown hg (h.box.own_ne h.buf.own (by decide))⟩

structure BlRel (w : World) (A : Array Value) (f g : Int → UInt8) (s : ByteArray) (l : List Int) (res : List UInt8) (v : Value) (q : Bool) (n k : Nat) (wr : World) : Prop where
  buf : ∃ acc, BB w A v acc wr ∧ acc ++ pad f g (ahead s k) q (l.drop n) (s.data.toList.drop k) = res ∧ acc.length ≤ 3 * k
  nle : n ≤ l.length
  kle : k ≤ s.size

theorem bits3 (x : Int) : ∃ d : Nat, d < 4 ∧ bits .and .i64 x 3 = (d : Int) := by
  unfold bits
  refine ⟨(BitVec.ofInt IntKind.i64.bits x &&& BitVec.ofInt IntKind.i64.bits 3).toNat, ?_, ?_⟩
  · rw [BitVec.toNat_and]
    have := @Nat.and_le_right (BitVec.ofInt IntKind.i64.bits x).toNat (BitVec.ofInt IntKind.i64.bits 3).toNat
    have h3 : (BitVec.ofInt IntKind.i64.bits 3).toNat = 3 := by decide
    omega
  · refine IntWalk.i64_in _ ?_
    have : (BitVec.ofInt IntKind.i64.bits x &&& BitVec.ofInt IntKind.i64.bits 3).toNat < 4 := by
      rw [BitVec.toNat_and]
      have := @Nat.and_le_right (BitVec.ofInt IntKind.i64.bits x).toNat (BitVec.ofInt IntKind.i64.bits 3).toNat
      have h3 : (BitVec.ofInt IntKind.i64.bits 3).toNat = 3 := by decide
      omega
    simp only
    omega
theorem bits3_all : ∃ D : Int → Nat, (∀ y, D y < 4) ∧ ∀ y, bits .and .i64 y 3 = (D y : Int) :=
  ⟨fun y => (bits3 y).choose, fun y => (bits3 y).choose_spec.1, fun y => (bits3 y).choose_spec.2⟩
/-- The blanks, by number. -/
def bl4 (n : Nat) : UInt8 := if n = 0 then 32 else if n = 1 then 10 else if n = 2 then 9 else 13
theorem bl4_blank (n : Nat) : blankB (bl4 n) = true := by
  unfold bl4
  repeat' split
  all_goals rfl
theorem bl4_at : ∀ n (h : n < (⟨#[32, 10, 9, 13]⟩ : ByteArray).size), (⟨#[32, 10, 9, 13]⟩ : ByteArray)[n]'h = bl4 n
  | 0, _ => rfl
  | 1, _ => rfl
  | 2, _ => rfl
  | 3, _ => rfl
  | n + 4, h => by
    have : (⟨#[32, 10, 9, 13]⟩ : ByteArray).size = 4 := rfl
    omega

theorem pad_s1 {f g : Int → UInt8} {c : UInt8} (hc : signC c = true) (rv : List UInt8) (x : Int) (bl : List Int) (r : List UInt8) : pad f g rv false (x :: bl) (c :: r) = f x :: c :: g x :: pad f g (c :: rv) false bl r := by
  have ht : tog rv false c = false := by
    unfold tog
    rw [if_neg]
    rintro rfl
    revert hc; decide
  rw [pad, hc, ht]
  simp
theorem pad_s0 {f g : Int → UInt8} {c : UInt8} (hc : signC c = true) (rv : List UInt8) (r : List UInt8) : pad f g rv false [] (c :: r) = c :: pad f g (c :: rv) false [] r := by
  have ht : tog rv false c = false := by
    unfold tog
    rw [if_neg]
    rintro rfl
    revert hc; decide
  rw [pad, hc, ht]
  simp
theorem pad_nn {f g : Int → UInt8} {c : UInt8} {q : Bool} (h : (!q && signC c) = false) (rv : List UInt8) (bl : List Int) (r : List UInt8) : pad f g rv q bl (c :: r) = c :: pad f g (c :: rv) (tog rv q c) bl r := by
  rw [pad, h]
  simp
theorem drop_byte (s : ByteArray) (k : Nat) (h : k < s.size) : s.data.toList.drop k = s[k]'h :: s.data.toList.drop (k + 1) := by
  rw [List.drop_eq_getElem_cons (by simpa using h)]
  simp
  rfl
theorem BlRel.s1 {w : World} {A : Array Value} {f g : Int → UInt8} {s : ByteArray} {l : List Int} {res : List UInt8} {v' : Value} {n k : Nat} {w2 : World} {acc : List UInt8} (hk : k < s.size) (hn : n < l.length)
    (hc : signC (s[k]'hk) = true) (hp : acc ++ pad f g (ahead s k) false (l.drop n) (s.data.toList.drop k) = res) (ha : acc.length ≤ 3 * k)
    (hb : BB w A v' (acc ++ [f l[n]] ++ [s[k]'hk] ++ [g l[n]]) w2) : BlRel w A f g s l res v' false (n + 1) (k + 1) w2 := by
  refine ⟨⟨_, hb, ?_, ?_⟩, hn, hk⟩
  · rw [drop_byte s k hk, List.drop_eq_getElem_cons hn, pad_s1 hc, ← ahead_succ s k hk] at hp
    rw [← hp]
    simp
  · simp only [List.length_append, List.length_cons, List.length_nil]; omega
theorem BlRel.s0 {w : World} {A : Array Value} {f g : Int → UInt8} {s : ByteArray} {l : List Int} {res : List UInt8} {v' : Value} {n k : Nat} {w2 : World} {acc : List UInt8} (hk : k < s.size) (hn : n ≤ l.length) (hn2 : ¬ n < l.length)
    (hc : signC (s[k]'hk) = true) (hp : acc ++ pad f g (ahead s k) false (l.drop n) (s.data.toList.drop k) = res) (ha : acc.length ≤ 3 * k)
    (hb : BB w A v' (acc ++ [s[k]'hk]) w2) : BlRel w A f g s l res v' false n (k + 1) w2 := by
  refine ⟨⟨_, hb, ?_, ?_⟩, hn, hk⟩
  · rw [drop_byte s k hk, List.drop_eq_nil_of_le (by omega), pad_s0 hc, ← ahead_succ s k hk] at hp
    rw [List.drop_eq_nil_of_le (by omega), ← hp]
    simp
  · simp only [List.length_append, List.length_cons, List.length_nil]; omega
theorem BlRel.nn {w : World} {A : Array Value} {f g : Int → UInt8} {s : ByteArray} {l : List Int} {res : List UInt8} {v' : Value} {n k : Nat} {w2 : World} {acc : List UInt8} {q q' : Bool} (hk : k < s.size) (hn : n ≤ l.length)
    (hc : (!q && signC (s[k]'hk)) = false) (hp : acc ++ pad f g (ahead s k) q (l.drop n) (s.data.toList.drop k) = res) (ha : acc.length ≤ 3 * k)
    (hb : BB w A v' (acc ++ [s[k]'hk]) w2) (hq : tog (ahead s k) q (s[k]'hk) = q') : BlRel w A f g s l res v' q' n (k + 1) w2 := by
  refine ⟨⟨_, hb, ?_, ?_⟩, hn, hk⟩
  · rw [drop_byte s k hk, pad_nn hc, ← ahead_succ s k hk, hq] at hp
    rw [← hp]
    simp
  · simp only [List.length_append, List.length_cons, List.length_nil]; omega

theorem tog_0 (s : ByteArray) (q : Bool) : tog (ahead s 0) q 34 = !q := by simp [tog, togB, ahead]
theorem tog_1 (rv : List UInt8) : tog rv false 34 = true := by simp [tog, togB]
theorem tog_2 {d : UInt8} {rv r : List UInt8} (h : rv = d :: r) (hd : d ≠ 92) : tog rv true 34 = false := by
  subst h; simp [tog, togB, hd]
theorem tog_3 {rv r : List UInt8} (h : rv = 92 :: r) (he : decide (lead rv % 2 = 0) = true) : tog rv true 34 = false := by
  have := of_decide_eq_true he
  subst h; simp [tog, togB, this]
theorem tog_4 {rv r : List UInt8} (h : rv = 92 :: r) (he : decide (lead rv % 2 = 0) = false) : tog rv true 34 = true := by
  have := of_decide_eq_false he
  subst h; simp [tog, togB, this]
theorem parseR_pad {T : Tm} {f g : Int → UInt8} (h : rightB 200 T = true) (hf : ∀ b, blankB (f b) = true) (hg : ∀ b, blankB (g b) = true) (bl : List Int) {x res : List UInt8} (hx : x = txt T) (hr : pad f g [] false bl x = res) (hl : res.length ≤ 65536) :
    parseR ⟨res.toArray⟩ = (T, 0, 0) := by
  subst hx hr
  unfold parseR
  have hs : (⟨(pad f g [] false bl (txt T)).toArray⟩ : ByteArray).size = (pad f g [] false bl (txt T)).length := by simp [ByteArray.size]
  rw [hs, if_neg (by omega)]
  have : (⟨(pad f g [] false bl (txt T)).toArray⟩ : ByteArray).data.toList = pad f g [] false bl (txt T) := by simp
  rw [this, parse_pad hf hg h]

set_option maxHeartbeats 8000000 in
set_option maxRecDepth 100000 in
theorem law_blanks (T : Tm) (l : List Int) (v u : Value) (w : World) (hT : RT w T v) (hL : RV w l u) : Calls Try.prog 5 #[v, u] w fun e w' => e = .returned (.bool true) ∧ Below w.heap.size w w' := by
  obtain ⟨a1, c1, a2, c2, rfl, _, _, _, _⟩ := hT.open
  obtain ⟨al, cl, rfl, hRI⟩ := hL
  obtain ⟨i0, hi, hz0, hz1, hz2⟩ := info_parts info5
  obtain ⟨D, hD1, hD2⟩ := bits3_all
  have hD3 : ∀ y, ((D y : Nat) : Int) < 4 := fun y => by have := hD1 y; omega
  have HA := hide (fun W => alive_any W)
  have HT := hide (fun W (h : Below w.heap.size w W) => RT.below h hT)
  have HV1 := hide (fun W h => heavy_any T (.agg #[.int .i64 T.kind, .string T.cons, .slice a1 T.text.length c1, .slice a2 T.kids.length c2]) W h)
  have HP1 := hide (fun W h k => Print_free T (.agg #[.int .i64 T.kind, .string T.cons, .slice a1 T.text.length c1, .slice a2 T.kids.length c2]) W h k)
  have HW := hide ((Below.refl _ w).alloc (Nat.le_refl _) (.cells #[.int .i64 T.kind, .string T.cons, .slice a1 T.text.length c1, .slice a2 T.kids.length c2] 25))
  have HB := hide (Blk.new w #[.int .i64 T.kind, .string T.cons, .slice a1 T.text.length c1, .slice a2 T.kids.length c2] 25)
  have HRI := hide hRI
  have hlen := hRI.len
  clear hT hRI
  cases h1 : heavyB T with
  | true =>
    rw [h1] at HV1
    go_enter Try.func5, Try.ntmps5
    go_wp2_with fail
    refine (HV1.out _ (HT.out _ HW.out)).mono ?_
    rintro e w1 ⟨rfl, hb1⟩
    have HB1 := hide (HW.out.trans (hb1.mono HW.out.size))
    clear hb1
    go_wp2_with fail
    refine (HA.out _).mono ?_
    rintro e w2 ⟨rfl, hb2⟩
    have HB2 := hide (HB1.out.trans (hb2.mono HB1.out.size))
    clear hb2
    go_wp2_with fail
    go_ret
    exact ⟨rfl, HB2.out⟩
  | false =>
    rw [h1] at HV1
    have HN1 := hide h1
    clear h1
    obtain ⟨p, cd, hpc⟩ : ∃ p c, printF T = (p, c) := ⟨_, _, rfl⟩
    have KT := printF_cases T
    rw [hpc] at HP1 KT
    clear hpc
    obtain ⟨nl, hnl⟩ : ∃ n, l.length = n := ⟨_, rfl⟩
    have HNL := hide hnl
    rw [hnl] at hlen ⊢
    clear hnl
    go_enter Try.func5, Try.ntmps5
    go_wp2_with fail
    refine (HV1.out _ (HT.out _ HW.out)).mono ?_
    rintro e w1 ⟨rfl, hb1⟩
    have HB1 := hide (HW.out.trans (hb1.mono HW.out.size))
    have q := HB.out.below hb1
    have e0 := q.cell 0
    have e1 := q.cell 1
    have e2 := q.cell 2
    have e3 := q.cell 3
    have HBA := hide q
    clear hb1 q
    go_wp2_with fail
    refine (HP1.out _ (HT.out _ HB1.out) HN1.out).mono ?_
    rintro e w2 ⟨rfl, hb⟩
    have HB2 := hide (HB1.out.trans (hb.mono HB1.out.size))
    have HBA2 := hide (HBA.out.below hb)
    clear hb e0 e1 e2 e3 HBA HB1 HB HW
    rcases KT with ⟨rT, _, tT, eT⟩ | ⟨dt, hdt, eT⟩
    · obtain ⟨rfl, rfl⟩ := Prod.mk.inj eT
      obtain ⟨s, hsd⟩ : ∃ s : ByteArray, (⟨(wrT T []).toArray⟩ : ByteArray) = s := ⟨_, rfl⟩
      rw [hsd]
      by_cases hs : s.size ≤ 5000
      · have hsi : ¬ (5000 : Int) < (s.size : Int) := by omega
        go_wp2_with fail
        obtain ⟨res, hres⟩ : ∃ res, pad (fun b => bl4 (D b)) (fun b => bl4 (D (b / 4))) [] false l s.data.toList = res := ⟨_, rfl⟩
        have HR0 := hide (show BlRel w #[.int .i64 T.kind, .string T.cons, .slice a1 T.text.length c1, .slice a2 T.kids.length c2] (fun b => bl4 (D b)) (fun b => bl4 (D (b / 4))) s l res (.slice none 0 0) false 0 0 w2 from
          ⟨⟨[], ⟨⟨World.ownsRow_nil _ _ _ _, HB2.out⟩, HBA2.out⟩, by simpa [ahead] using hres, by simp⟩, Nat.zero_le _, Nat.zero_le _⟩)
        go_loopg [7, 8, 9, 10] s.size (fun m v7 v8 v9 v10 wr => ∃ (n k : Nat) (q : Bool), Hid (m = s.size - k) ∧ v8 = .bool q ∧ v9 = .int .i64 (n : Int) ∧ v10 = .int .i64 (k : Int) ∧ Hid (BlRel w #[.int .i64 T.kind, .string T.cons, .slice a1 T.text.length c1, .slice a2 T.kids.length c2] (fun b => bl4 (D b)) (fun b => bl4 (D (b / 4))) s l res v7 q n k wr))
        case atStart => exact ⟨0, 0, false, rfl, rfl, rfl, rfl, HR0⟩
        case round =>
          obtain ⟨n, k, q, hm, rfl, rfl, rfl, hr⟩ := hrel
          obtain ⟨acc, hbb, hpad, hacc⟩ := hr.out.buf
          have hnle := hr.out.nle
          have hkle := hr.out.kle
          rw [HNL.out] at hnle
          have HQ := hide hbb
          by_cases hk : k < s.size
          · have hki : (k : Int) < (s.size : Int) := by omega
            obtain ⟨c, hc⟩ : ∃ c, s[k]'hk = c := ⟨_, rfl⟩
            have HPAD := hide hpad
            have HKK := hide hc
            clear hbb hpad
            go_upto_region 13 with fail
            go_cut [12] (fun v12 wc => v12 = .bool (!q && signC c) ∧ wc = wr)
            case first =>
              cases q
              · by_cases k1 : c = 40
                · subst k1; go_wp2_with fail; go_meet; exact ⟨rfl, rfl⟩
                have m1 : ((c.toNat : Int) == 40) = false := byte_ne k1
                by_cases k2 : c = 41
                · subst k2; go_wp2_with fail; go_meet; exact ⟨rfl, rfl⟩
                have m2 : ((c.toNat : Int) == 41) = false := byte_ne k2
                by_cases k3 : c = 44
                · subst k3; go_wp2_with fail; go_meet; exact ⟨rfl, rfl⟩
                have m3 : ((c.toNat : Int) == 44) = false := byte_ne k3
                by_cases k4 : c = 91
                · subst k4; go_wp2_with fail; go_meet; exact ⟨rfl, rfl⟩
                have m4 : ((c.toNat : Int) == 91) = false := byte_ne k4
                by_cases k5 : c = 93
                · subst k5; go_wp2_with fail; go_meet; exact ⟨rfl, rfl⟩
                have m5 : ((c.toNat : Int) == 93) = false := byte_ne k5
                by_cases k6 : c = 63
                · subst k6; go_wp2_with fail; go_meet; exact ⟨rfl, rfl⟩
                have m6 : ((c.toNat : Int) == 63) = false := byte_ne k6
                by_cases k7 : c = 45
                · subst k7; go_wp2_with fail; go_meet; exact ⟨rfl, rfl⟩
                have m7 : ((c.toNat : Int) == 45) = false := byte_ne k7
                have hsf : signC c = false := by simp [signC, k1, k2, k3, k4, k5, k6, k7]
                go_wp2_with fail
                go_meet
                rw [hsf]
                exact ⟨rfl, rfl⟩
              · go_wp2_with fail
                go_meet
                exact ⟨rfl, rfl⟩
            case rest =>
              obtain ⟨rfl, hwc⟩ := hcut
              have hwc2 := hwc.symm
              clear hwc
              subst hwc2
              cases hsg : (!q && signC c) with
              | true =>
                have hsg2 := hsg
                rw [Bool.and_eq_true] at hsg2
                obtain ⟨hq, hsc⟩ := hsg2
                obtain rfl : q = false := by simpa using hq
                have HSC := hide hsc
                have m34 : ((c.toNat : Int) == 34) = false := byte_ne (x := 34) (by rintro rfl; revert hsc; decide)
                clear hsc hq
                by_cases hnn : n < nl
                · have hni : (n : Int) < (nl : Int) := by omega
                  have hn2 : n < l.length := by have := HNL.out; omega
                  obtain ⟨b, o, rfl, hbl, hcells⟩ := HRI.out.at_ (by rintro rfl; simp at hn2)
                  have HCELL := hide hcells
                  clear hcells
                  have hcell := (HQ.out.buf.below.cell (p := ⟨b, o + n, none⟩) hbl).trans (HCELL.out n hn2)
                  have hbl2 := Nat.lt_of_lt_of_le hbl HQ.out.buf.below.size
                  obtain ⟨x, hx⟩ : ∃ x, l[n] = x := ⟨_, rfl⟩
                  have HX := hide hx
                  rw [hx] at hcell
                  clear hx
                  go_wp2_with (at_builtin; refine wpList_append_own _ rfl _ _ 22 rfl w.heap.size 5 i0 (.int .u8 0) 1 1 Try.underlying22 hi hz0 hz1 hz2 rfl (by decide) _ _ _ rfl (HQ.out.buf.own.alloc _) ⟨wr.heap.size, 0, none⟩ 1 1 [_] rfl rfl (cell_one_new _ _ _) ?c2 ?c3 ?c4 ?c5 ?_)
                  case c2 => first | (intro x hx; simp at hx; subst hx; rfl) | rfl
                  case c3 => unfold maxLen; (try simp only [List.length_append, List.length_cons, List.length_nil]); omega
                  case c4 => (try simp only [List.length_append, List.length_cons, List.length_nil]); omega
                  case c5 => have := HQ.out.buf.below.size; simp; omega
                  intro v' w2 hown' hgrow _
                  rw [bl4_at] at hown'
                  have HQ2 := hide (HQ.out.push (bl4 (D x)) hown' hgrow (by simp) rfl)
                  have hcell2 := (HQ2.out.buf.below.cell (p := ⟨b, o + n, none⟩) hbl).trans (HCELL.out n hn2)
                  rw [HX.out] at hcell2
                  have hbl3 := Nat.lt_of_lt_of_le hbl HQ2.out.buf.below.size
                  clear hown' hgrow hcell hbl2
                  go_wp2_with (at_builtin; refine wpList_append_own _ rfl _ _ 22 rfl w.heap.size 5 i0 (.int .u8 0) 1 1 Try.underlying22 hi hz0 hz1 hz2 rfl (by decide) _ _ _ rfl (HQ2.out.buf.own.alloc _) ⟨w2.heap.size, 0, none⟩ 1 1 [_] rfl rfl (cell_one_new _ _ _) ?c2 ?c3 ?c4 ?c5 ?_)
                  case c2 => first | (intro x hx; simp at hx; subst hx; rfl) | rfl
                  case c3 => unfold maxLen; (try simp only [List.length_append, List.length_cons, List.length_nil]); omega
                  case c4 => (try simp only [List.length_append, List.length_cons, List.length_nil]); omega
                  case c5 => have := HQ2.out.buf.below.size; simp; omega
                  intro v'' w3 hown' hgrow _
                  have HQ3 := hide (HQ2.out.push c hown' hgrow (by simp) rfl)
                  rw [show acc ++ [bl4 (D x)] ++ [c] = acc ++ [bl4 (D x), c] by simp] at HQ3
                  have hcell3 := (HQ3.out.buf.below.cell (p := ⟨b, o + n, none⟩) hbl).trans (HCELL.out n hn2)
                  rw [HX.out] at hcell3
                  have hbl4 := Nat.lt_of_lt_of_le hbl HQ3.out.buf.below.size
                  clear hown' hgrow hcell2 hbl3
                  go_wp2_with (at_builtin; refine wpList_append_own _ rfl _ _ 22 rfl w.heap.size 5 i0 (.int .u8 0) 1 1 Try.underlying22 hi hz0 hz1 hz2 rfl (by decide) _ _ _ rfl (HQ3.out.buf.own.alloc _) ⟨w3.heap.size, 0, none⟩ 1 1 [_] rfl rfl (cell_one_new _ _ _) ?c2 ?c3 ?c4 ?c5 ?_)
                  case c2 => first | (intro x hx; simp at hx; subst hx; rfl) | rfl
                  case c3 => unfold maxLen; (try simp only [List.length_append, List.length_cons, List.length_nil]); omega
                  case c4 => (try simp only [List.length_append, List.length_cons, List.length_nil]); omega
                  case c5 => have := HQ3.out.buf.below.size; simp; omega
                  intro v3 w4 hown' hgrow _
                  rw [bl4_at] at hown'
                  have HQ4 := hide (HQ3.out.push (bl4 (D (x / 4))) hown' hgrow (by simp) rfl)
                  clear hown' hgrow hcell3 hbl4
                  go_wp2_with fail
                  go_roundg (s.size - (k + 1))
                  case measure => rw [hm.out]; omega
                  case rel => exact ⟨n + 1, k + 1, false, rfl, rfl, rfl, rfl, hide (BlRel.s1 hk hn2 (by rw [HKK.out]; exact HSC.out) HPAD.out hacc (by rw [HKK.out, HX.out, show acc ++ [bl4 (D x)] ++ [c] = acc ++ [bl4 (D x), c] by simp]; exact HQ4.out))⟩
                · have hni : ¬ (n : Int) < (nl : Int) := by omega
                  go_wp2_with (at_builtin; refine wpList_append_own _ rfl _ _ 22 rfl w.heap.size 5 i0 (.int .u8 0) 1 1 Try.underlying22 hi hz0 hz1 hz2 rfl (by decide) _ _ _ rfl (HQ.out.buf.own.alloc _) ⟨wr.heap.size, 0, none⟩ 1 1 [_] rfl rfl (cell_one_new _ _ _) ?c2 ?c3 ?c4 ?c5 ?_)
                  case c2 => first | (intro x hx; simp at hx; subst hx; rfl) | rfl
                  case c3 => unfold maxLen; (try simp only [List.length_append, List.length_cons, List.length_nil]); omega
                  case c4 => (try simp only [List.length_append, List.length_cons, List.length_nil]); omega
                  case c5 => have := HQ.out.buf.below.size; simp; omega
                  intro v' w2 hown' hgrow _
                  have HQ2 := hide (HQ.out.push c hown' hgrow (by simp) rfl)
                  clear hown' hgrow
                  go_wp2_with fail
                  go_roundg (s.size - (k + 1))
                  case measure => rw [hm.out]; omega
                  case rel => exact ⟨n, k + 1, false, rfl, rfl, rfl, rfl, hide (BlRel.s0 hk (by have := HNL.out; omega) (by have := HNL.out; omega) (by rw [HKK.out]; exact HSC.out) HPAD.out hacc (by rw [HKK.out]; exact HQ2.out))⟩
              | false =>
                go_wp2_with (at_builtin; refine wpList_append_own _ rfl _ _ 22 rfl w.heap.size 5 i0 (.int .u8 0) 1 1 Try.underlying22 hi hz0 hz1 hz2 rfl (by decide) _ _ _ rfl (HQ.out.buf.own.alloc _) ⟨wr.heap.size, 0, none⟩ 1 1 [_] rfl rfl (cell_one_new _ _ _) ?c2 ?c3 ?c4 ?c5 ?_)
                case c2 => first | (intro x hx; simp at hx; subst hx; rfl) | rfl
                case c3 => unfold maxLen; (try simp only [List.length_append, List.length_cons, List.length_nil]); omega
                case c4 => (try simp only [List.length_append, List.length_cons, List.length_nil]); omega
                case c5 => have := HQ.out.buf.below.size; simp; omega
                intro v' w2 hown' hgrow _
                have HQ2 := hide (HQ.out.push c hown' hgrow (by simp) rfl)
                clear hown' hgrow
                by_cases h34 : c = 34
                · subst h34
                  by_cases k0 : k = 0
                  · subst k0
                    go_wp2_with fail
                    go_roundg (s.size - (0 + 1))
                    case measure => rw [hm.out]; omega
                    case rel => exact ⟨n, 0 + 1, !q, rfl, rfl, rfl, rfl, hide (BlRel.nn hk (by have := HNL.out; omega) (by rw [HKK.out]; exact hsg) HPAD.out hacc (by rw [HKK.out]; exact HQ2.out) (by rw [HKK.out]; exact tog_0 s q))⟩
                  · have w1 : IntKind.i64.wrap ((k : Int) - 1) = (k : Int) - 1 := IntWalk.i64_in _ (by omega)
                    have w2 : ((k : Int) - 1).toNat = k - 1 := by omega
                    have w3 : (0 : Int) ≤ (k : Int) - 1 := by omega
                    have w4 : (k : Int) - 1 < (s.size : Int) := by omega
                    have w5 : ((k : Int) == 0) = false := by rw [beq_eq_false_iff_ne]; omega
                    have w6 : k - 1 < s.size := by omega
                    cases q with
                    | false =>
                      go_wp2_with fail
                      go_roundg (s.size - (k + 1))
                      case measure => rw [hm.out]; omega
                      case rel => exact ⟨n, k + 1, true, rfl, rfl, rfl, rfl, hide (BlRel.nn hk (by have := HNL.out; omega) (by rw [HKK.out]; exact hsg) HPAD.out hacc (by rw [HKK.out]; exact HQ2.out) (by rw [HKK.out]; exact tog_1 (ahead s k)))⟩
                    | true =>
                      obtain ⟨d, hd⟩ : ∃ d, s[k - 1]'w6 = d := ⟨_, rfl⟩
                      have HAH := hide (ahead_succ s (k - 1) w6)
                      rw [hd, show k - 1 + 1 = k by omega] at HAH
                      by_cases d92 : d = 92
                      · subst d92
                        obtain ⟨ev, hev⟩ : ∃ b, decide (lead (ahead s k) % 2 = 0) = b := ⟨_, rfl⟩
                        have HEV := hide (fun W => even_any s k (by omega) (by omega) W)
                        rw [hev] at HEV
                        have HEV2 := hide hev
                        clear hev
                        cases ev
                        · go_wp2_with (go_at_call 19; refine (HEV.out _).mono ?_; rintro e w' ⟨rfl, rfl⟩)
                          go_roundg (s.size - (k + 1))
                          case measure => rw [hm.out]; omega
                          case rel => exact ⟨n, k + 1, true, rfl, rfl, rfl, rfl, hide (BlRel.nn hk (by have := HNL.out; omega) (by rw [HKK.out]; exact hsg) HPAD.out hacc (by rw [HKK.out]; exact HQ2.out) (by rw [HKK.out]; exact tog_4 HAH.out HEV2.out))⟩
                        · go_wp2_with (go_at_call 19; refine (HEV.out _).mono ?_; rintro e w' ⟨rfl, rfl⟩)
                          go_roundg (s.size - (k + 1))
                          case measure => rw [hm.out]; omega
                          case rel => exact ⟨n, k + 1, false, rfl, rfl, rfl, rfl, hide (BlRel.nn hk (by have := HNL.out; omega) (by rw [HKK.out]; exact hsg) HPAD.out hacc (by rw [HKK.out]; exact HQ2.out) (by rw [HKK.out]; exact tog_3 HAH.out HEV2.out))⟩
                      · have h92 : ((d.toNat : Int) == 92) = false := byte_ne (x := 92) d92
                        have n92 : ((d.toNat : Int) != 92) = true := by rw [bne, h92]; rfl
                        go_wp2_with fail
                        go_roundg (s.size - (k + 1))
                        case measure => rw [hm.out]; omega
                        case rel => exact ⟨n, k + 1, false, rfl, rfl, rfl, rfl, hide (BlRel.nn hk (by have := HNL.out; omega) (by rw [HKK.out]; exact hsg) HPAD.out hacc (by rw [HKK.out]; exact HQ2.out) (by rw [HKK.out]; exact tog_2 HAH.out d92))⟩
                · have m34 : ((c.toNat : Int) == 34) = false := byte_ne h34
                  go_wp2_with fail
                  go_roundg (s.size - (k + 1))
                  case measure => rw [hm.out]; omega
                  case rel => exact ⟨n, k + 1, q, rfl, rfl, rfl, rfl, hide (BlRel.nn hk (by have := HNL.out; omega) (by rw [HKK.out]; exact hsg) HPAD.out hacc (by rw [HKK.out]; exact HQ2.out) (by rw [HKK.out]; unfold tog; rw [if_neg h34]))⟩
          · obtain rfl : k = s.size := by omega
            have hki : ¬ (s.size : Int) < (s.size : Int) := by omega
            have hdr : s.data.toList.drop s.size = [] := List.drop_eq_nil_of_le (by rw [size_len]; omega)
            rw [hdr] at hpad
            have hpn : pad (fun b => bl4 (D b)) (fun b => bl4 (D (b / 4))) (ahead s s.size) q (l.drop n) [] = [] := by rw [pad]
            rw [hpn, List.append_nil] at hpad
            subst hpad
            have hlr : acc.length ≤ 15000 := by omega
            obtain ⟨a9, cap, rfl, hrd⟩ := own_reads (bs := acc) hbb.buf.own (by omega)
            have hrb : RB wr a9 acc := RBo.weak (fun _ _ => trivial) hrd
            have hcv := hrb.str acc.length cap rfl
            have hp := parseR_pad rT (fun b => bl4_blank (D b)) (fun b => bl4_blank (D (b / 4))) l (show s.data.toList = txt T by rw [← hsd, ← tT]) hres (by omega)
            have HP := hide (parse_any ⟨acc.toArray⟩ wr (by simp [ByteArray.size]; omega))
            rw [hp] at HP
            have HB3 := hide hbb.buf.below
            have HBX := hide hbb.box
            obtain ⟨m2, hm2⟩ : ∃ m, acc.length = m := ⟨_, rfl⟩
            rw [hm2] at hcv ⊢
            clear hrd hrb hp hbb hres HQ HRI HNL tT rT hsd
            go_wp2_with fail
            refine HP.out.mono ?_
            rintro e w3 ⟨⟨x3, rfl, hx3⟩, hb⟩
            obtain ⟨p3, m3, q3, l3, rfl, _, _, _, _⟩ := hx3.open
            have HB4 := hide (HB3.out.trans (hb.mono HB3.out.size))
            have HX3 := hide hx3.to
            have HO3 := hide (HBX.out.below hb)
            clear hx3 hb HP
            unfold fv
            have hb2 := two_blk w3 #[.int .i64 T.kind, .string T.cons, .slice p3 T.text.length m3, .slice q3 T.kids.length l3] #[.int .i64 0, .int .i64 0] 25 32
            have hw2 := two_new w3 (.cells #[.int .i64 T.kind, .string T.cons, .slice p3 T.text.length m3, .slice q3 T.kids.length l3] 25) (.cells #[.int .i64 0, .int .i64 0] 32)
            have HO4 := hide (HO3.out.below hw2)
            have HK4 := hide hb2
            have HX4 := hide (RT.below hw2 HX3.out)
            have HW4 := hide (HB4.out.trans (hw2.mono HB4.out.size))
            clear hb2 hw2
            go_wp2_with fail
            refine (HA.out _).mono ?_
            rintro e w5 ⟨rfl, hb⟩
            have HB5 := hide (HW4.out.trans (hb.mono HW4.out.size))
            have HX5 := hide (RT.below hb HX4.out)
            have q1 := HO4.out.below hb
            have q2 := HK4.out.1.below hb
            have q3 := HK4.out.2.below hb
            clear hb HX4 HK4
            have d0 := q1.cell 0
            have d1 := q1.cell 1
            have d2 := q1.cell 2
            have d3 := q1.cell 3
            have f0 := q2.cell 0
            have f1 := q2.cell 1
            have f2 := q2.cell 2
            have f3 := q2.cell 3
            have g0 := q3.cell 0
            have g1 := q3.cell 1
            clear q1 q2 q3
            go_wp2_with fail
            refine (rsame_any T T _ _ _ HX5.out (HT.out _ HB5.out)).mono ?_
            rintro e w6 ⟨rfl, hb⟩
            have HB6 := hide (HB5.out.trans (hb.mono HB5.out.size))
            have hTT : sameB T T = true := (sameB_eq T T).2 rfl
            rw [hTT]
            clear hb d0 d1 d2 d3 f0 f1 f2 f3 g0 g1
            go_wp2_with fail
            go_ret
            exact ⟨rfl, HB6.out⟩
      · have hsi : (5000 : Int) < (s.size : Int) := by omega
        clear rT tT eT hsd hs
        go_wp2_with fail
        refine (HA.out _).mono ?_
        rintro e w3 ⟨rfl, hb⟩
        have HB3 := hide (HB2.out.trans (hb.mono HB2.out.size))
        clear hb
        go_wp2_with fail
        go_ret
        exact ⟨rfl, HB3.out⟩
    · obtain ⟨rfl, rfl⟩ := Prod.mk.inj eT
      have p1 : (cd == 0) = false := by rcases hdt with rfl | rfl <;> rfl
      have p2 : (cd != 0) = true := by rcases hdt with rfl | rfl <;> rfl
      clear hdt eT
      go_wp2_with fail
      refine (HA.out _).mono ?_
      rintro e w3 ⟨rfl, hb⟩
      have HB3 := hide (HB2.out.trans (hb.mono HB2.out.size))
      clear hb
      go_wp2_with fail
      go_ret
      exact ⟨rfl, HB3.out⟩
end Go.Proofs.Ytfndldfnlncabaa
