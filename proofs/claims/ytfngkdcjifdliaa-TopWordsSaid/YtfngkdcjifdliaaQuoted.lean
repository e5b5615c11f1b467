/- The walk of words.quoted. -/
import Derived.Test.YtfngkdcjifdliaaEscape
import Derived.Test.YtfngkdcjifdliaaRuns
import Derived.Lib.UnsafeStr
import Derived.Maps.AppendAt
import Derived.Lib.IndexBytes
namespace Go.Proofs.Ytfngkdcjifdliaa
set_option linter.unnecessarySimpa false
set_option linter.deprecated false
open Go.RowKit
set_option linter.unusedVariables false
set_option linter.unusedSimpArgs false


/-- A row of bytes of the call's own reads as its list. -/
theorem own_reads {w : World} {B : Nat} {v : Value} {bs : List UInt8} (h : w.ownsRow B 5 1 v bs.length (Lib.byteCells bs)) (hl : bs.length ≤ 140737488351232) : ∃ a cap, v = .slice a bs.length cap ∧ RBo (fun k => B ≤ k) w a bs := by
  rcases h.2 with ⟨rfl, h0⟩ | ⟨g, cap, cur, rfl, hB, hg, hn, _, hsz, htk⟩
  · have : bs = [] := List.length_eq_zero_iff.1 h0
    subst this
    exact ⟨none, 0, rfl, RBo.nil⟩
  · refine ⟨_, cap, rfl, hl, fun _ => ⟨g, 0, rfl, hB, (Array.getElem?_eq_some_iff.1 hg).1, fun i hi => ?_⟩⟩
    rw [Lib.cell_of_heap hg]
    have h1 : cur.toList[0 + i]? = some (.int .u8 ((bs[i]?.getD 0).toNat : Int)) := by
      have h2 : (cur.toList.take (bs.length * 1))[i]? = (Lib.byteCells bs)[i]? := by rw [htk]
      rw [List.getElem?_take_of_lt (by omega)] at h2
      rw [Nat.zero_add, h2]
      simp [Lib.byteCells, hi]
    rw [← Array.getElem?_toList]
    exact h1

/-- The place and the code of a fault. -/
@[reducible] def fv (at_ code : Int) : Value := .agg #[.int .i64 at_, .int .i64 code]

/-- What quoted hands back. -/
def QPost (size at_ : Nat) (B : Nat) (r : QR) (e : Ending) (w' : World) : Prop :=
  match r with
  | .ok bs rest => ∃ a cap, e = .returned (.tuple #[.slice a bs.length cap, .int .i64 ((size - rest.length : Nat) : Int), fv 0 0]) ∧ w'.ownsRow B 5 1 (.slice a bs.length cap) bs.length (Lib.byteCells bs)
  | .bad left code => e = .returned (.tuple #[.slice none 0 0, .int .i64 0, fv ((size - left : Nat) : Int) code])
  | .opened => e = .returned (.tuple #[.slice none 0 0, .int .i64 0, fv (at_ : Int) 13])

theorem keep_setCell (w : World) (B i : Nat) (v : Value) : Keep (fun k => B + 1 ≤ k) w (w.setCell ⟨B, i, none⟩ v) :=
  ⟨by simp [World.setCell], fun k hk _ => Below.heap_setCell _ _ _ _ (by show k ≠ B; omega)⟩
theorem below_next' {w wr w' : World} {B : Nat} (h : Below B w wr) (k : Below wr.heap.size wr w') (hB : B ≤ wr.heap.size := by omega) : Below B w w' := h.trans (k.mono hB)

structure QRel (s : ByteArray) (w : World) (res : QR) (v : Value) (p : Nat) (wr : World) : Prop where
  acc : ∃ fuel acc, wr.ownsRow (w.heap.size + 1) 5 1 v acc.length (Lib.byteCells acc) ∧ unqL fuel (s.data.toList.drop p) acc = res ∧ s.size < p + fuel ∧ acc.length ≤ p
  blk : Blk wr w.heap.size #[.int .i64 0, .int .i64 0] 30
  below : Below w.heap.size w wr

theorem QRel.below' {s : ByteArray} {w : World} {res : QR} {v : Value} {p : Nat} {wr w1 : World} (h : QRel s w res v p wr) (hb : Below wr.heap.size wr w1) : QRel s w res v p w1 := by
  obtain ⟨fuel, acc, h1, h2⟩ := h.acc
  exact ⟨⟨fuel, acc, own_below h1 hb, h2⟩, h.blk.below hb, below_next h.below hb⟩
theorem QRel.push {s : ByteArray} {w : World} {res : QR} {v : Value} {p : Nat} {wr : World} (h : QRel s w res v p wr) {fuel : Nat} {acc : List UInt8} (hown : wr.ownsRow (w.heap.size + 1) 5 1 v acc.length (Lib.byteCells acc)) {u : UInt8} {o : Obj} {v' : Value} {w2 : World}
    (hown' : w2.ownsRow (w.heap.size + 1) 5 1 v' (acc.length + 1) (Lib.byteCells acc ++ [.int .u8 (u.toNat : Int)])) (hg : (wr.alloc o).grownBy w2 v.ownBlock) (q : Nat) (hu : unqL fuel (s.data.toList.drop q) (acc ++ [u]) = res) (hf : s.size < q + fuel) (hl : acc.length + 1 ≤ q) :
    QRel s w res v' q w2 := by
  have hb := h.below.alloc h.below.size o
  refine ⟨⟨fuel, acc ++ [u], ?_, hu, hf, by simpa using hl⟩, (h.blk.alloc o).grown hg (h.blk.own_ne hown (by decide)), ?_⟩
  · rw [List.length_append, Lib.byteCells_append]
    exact hown'
  · refine hb.grown hg hb.size fun k hk => ?_
    rcases hown.2 with ⟨rfl, _⟩ | ⟨g, cap, cur, rfl, hB, _⟩
    · simp [Value.ownBlock] at hk
    · simp only [Value.ownBlock, Option.some.injEq] at hk
      omega

set_option maxHeartbeats 4000000 in
set_option maxRecDepth 100000 in
theorem quoted_any (s : ByteArray) (at_ : Nat) (w : World) (hs : s.size ≤ 140737488351232) (ha : at_ < s.size) :
    Calls Try.prog 22 #[.string s, .int .i64 (at_ : Int)] w fun e w' => QPost s.size at_ w.heap.size (unqL s.size (s.data.toList.drop (at_ + 1)) []) e w' ∧ Below w.heap.size w w' := by
  obtain ⟨res, hres⟩ : ∃ res, unqL s.size (s.data.toList.drop (at_ + 1)) [] = res := ⟨_, rfl⟩
  have HR := hide hres
  rw [hres]
  clear hres
  have hai : (at_ : Int) < (s.size : Int) := by omega
  go_enter Try.func22, Try.ntmps22
  go_wp2_with fail
  go_loopw [7, 8, 9, 10, 11] (fun v7 v8 _ _ _ wr => ∃ p : Nat, v8 = .int .i64 p ∧ p ≤ s.size ∧ Hid (QRel s w res v7 p wr)) (fun _ v8 _ _ _ _ => s.size - (intOf v8).toNat)
  case atStart => exact ⟨at_ + 1, by go_num, by omega, ⟨⟨_, [], World.ownsRow_nil .., HR.out, by omega, by simp⟩, Blk.new _ _ _, (Below.refl _ w).alloc (Nat.le_refl _) _⟩⟩
  case round =>
    obtain ⟨p, rfl, hps, hq⟩ := hrel
    obtain ⟨i0, hi, hz0, hz1, hz2⟩ := info_parts info5
    by_cases hp : p < s.size
    · obtain ⟨fuel, acc, hown, hun, hfu, hal⟩ := hq.out.acc
      obtain ⟨f, rfl⟩ : ∃ f, fuel = f + 1 := ⟨fuel - 1, by omega⟩
      rw [drop_at s p hp, unqL] at hun
      have HOWN := hide hown
      have f0 := hq.out.blk.cell 0
      have f1 := hq.out.blk.cell 1
      have z0 := hq.out.blk.free 0
      have z1 := hq.out.blk.free 1
      have hlt := hq.out.blk.lt
      simp only [List.size_toArray, List.length_cons, List.length_nil, Nat.reduceAdd, Nat.zero_lt_succ, getElem?_pos, List.getElem_toArray, List.getElem_cons_zero, Nat.lt_add_one, List.getElem_cons_succ] at f0 f1
      generalize hc : s[p]'hp = c at hun
      have hlo : (0 : Int) ≤ (c.toNat : Int) := by omega
      have hhi : (c.toNat : Int) ≤ 255 := by have := c.toNat_lt; omega
      by_cases c1 : c = 34
      · have e1 : ((c.toNat : Int) == 34) = true := by rw [c1]; rfl
        rw [if_pos c1] at hun
        have HUN := hide hun
        clear hun hown c1
        obtain ⟨ao, cap, rfl, _⟩ := own_shape HOWN.out
        go_wp2_with fail
        refine bodyPost_ret (v := .tuple #[.slice ao acc.length cap, .int .i64 ((p : Int) + 1), fv 0 0]) (by simp [results, Try.results22, go_sem, f0, f1, fv]) rfl ?_
        rw [← HUN.out]
        refine ⟨⟨ao, cap, ?_, ?_⟩, ?_⟩
        · have e : ((p : Int) + 1) = ((s.size - (s.data.toList.drop (p + 1)).length : Nat) : Int) := by
            rw [List.length_drop, size_len]; omega
          rw [e]
        · exact own_base (own_set (own_set HOWN.out hq.out.blk (by decide)) (hq.out.blk.set 0 _) (by decide)) (by omega)
        · exact (hq.out.below.setCell (p := ⟨w.heap.size, 0, none⟩) (Nat.le_refl _) _).setCell (p := ⟨w.heap.size, 1, none⟩) (Nat.le_refl _) _
      have n1 : ((c.toNat : Int) == 34) = false := byte_ne c1
      rw [if_neg c1] at hun
      by_cases c2 : c = 92
      · have e2 : ((c.toNat : Int) == 92) = true := by rw [c2]; rfl
        rw [if_pos c2] at hun
        have hex : (s.extract p s.size).data.toList = c :: s.data.toList.drop (p + 1) := by
          rw [Lib.extract_to_end, drop_at s p hp, hc]
        have hev := escV_of (s := s.extract p s.size) (b := (escL (c :: s.data.toList.drop (p + 1))).1) (n := (escL (c :: s.data.toList.drop (p + 1))).2) (by rw [hex])
        have hle := escL_len (c :: s.data.toList.drop (p + 1))
        have hll : (c :: s.data.toList.drop (p + 1)).length = s.size - p := by rw [List.length_cons, List.length_drop, size_len]; omega
        rw [hll] at hle
        have hdd : (c :: s.data.toList.drop (p + 1)) = s.data.toList.drop p := by rw [drop_at s p hp, hc]
        generalize hes : escL (c :: s.data.toList.drop (p + 1)) = es at hun hev hle
        obtain ⟨u, n⟩ := es
        simp only at hun hev hle
        rw [hdd, List.drop_drop] at hun
        have HUN := hide hun
        have HEV := hide hev
        have hsz : (s.extract p s.size).size ≤ 140737488351232 := by rw [ByteArray.size_extract]; omega
        have HSZ := hide hsz
        clear hun hown c1 c2 hex hes hdd hll hsz hev
        go_wp2_with fail
        refine (escape_any _ _ HSZ.out).mono ?_
        rintro e w1 ⟨rfl, hb1⟩
        rw [HEV.out]
        have hbl := hq.out.blk.below hb1
        have f0 := hbl.cell 0
        have f1 := hbl.cell 1
        have z0 := hbl.free 0
        have z1 := hbl.free 1
        have hlt := hbl.lt
        have HOWN := hide (own_below HOWN.out hb1)
        have hBel := below_next hq.out.below hb1
        have HBEL := hide hBel
        simp only [List.size_toArray, List.length_cons, List.length_nil, Nat.reduceAdd, Nat.zero_lt_succ, getElem?_pos, List.getElem_toArray, List.getElem_cons_zero, Nat.lt_add_one, List.getElem_cons_succ] at f0 f1
        clear hbl hBel
        by_cases hn0 : n = 0
        · subst hn0
          have HUN : Hid (QR.bad ((s.data.toList.drop (p + 1)).length + 1) 12 = res) := HUN.out
          go_wp2_with fail
          refine bodyPost_ret (v := .tuple #[.slice none 0 0, .int .i64 0, fv (p : Int) 12]) (by simp [results, Try.results22, go_sem, f0, f1, fv]) rfl ?_
          rw [← HUN.out]
          refine ⟨?_, ?_⟩
          · have e : (p : Int) = ((s.size - ((s.data.toList.drop (p + 1)).length + 1) : Nat) : Int) := by
              rw [List.length_drop, size_len]; omega
            show Ending.returned (.tuple #[.slice none 0 0, .int .i64 0, fv (p : Int) 12]) = Ending.returned (.tuple #[.slice none 0 0, .int .i64 0, fv ((s.size - ((s.data.toList.drop (p + 1)).length + 1) : Nat) : Int) 12])
            rw [← e]
          · exact (HBEL.out.setCell (p := ⟨w.heap.size, 0, none⟩) (Nat.le_refl _) _).setCell (p := ⟨w.heap.size, 1, none⟩) (Nat.le_refl _) _
        · have hn1 : ((n : Int) == 0) = false := by rw [beq_eq_false_iff_ne]; omega
          have HUN : Hid (unqL f (List.drop (p + n) s.data.toList) (acc ++ [u]) = res) := (if_neg hn0).symm.trans HUN.out
          have HQ1 : Hid (QRel s w res u7 p w1) := hq.out.below' hb1
          clear hb1
          go_wp2_with (at_builtin; refine wpList_append_own _ rfl _ _ 25 rfl (w.heap.size + 1) 5 i0 (.int .u8 0) 1 1 Try.underlying25 hi hz0 hz1 hz2 rfl (by decide) _ _ _ rfl (HOWN.out.alloc _) ⟨w1.heap.size, 0, none⟩ 1 1 [.int .u8 (u.toNat : Int)] rfl rfl (cell_one_new _ _ _) ?c2 ?c3 ?c4 ?c5 ?_)
          case c2 => first | (intro x hx; simp at hx; subst hx; rfl) | rfl
          case c3 => unfold maxLen; omega
          case c4 => omega
          case c5 => have := HQ1.out.below.size; simp; omega
          intro v' w2 hown' hgrow _
          have HG := hide hgrow
          have HO := hide hown'
          clear hgrow hown' f0 f1 z0 z1 hlt
          go_wp2_with fail
          go_roundw
          case rel => exact ⟨p + n, by go_num, by omega, HQ1.out.push HOWN.out HO.out HG.out _ HUN.out (by omega) (by omega)⟩
          case measure => simp [intOf]; omega
      have n2 : ((c.toNat : Int) == 92) = false := byte_ne c2
      rw [if_neg c2] at hun
      by_cases c3 : c < 32 ∨ 126 < c
      · rw [if_pos c3] at hun
        rw [UInt8.lt_iff_toNat_lt, UInt8.lt_iff_toNat_lt] at c3
        have c4 : (c.toNat : Int) < 32 ∨ ¬ (c.toNat : Int) < 32 ∧ 126 < (c.toNat : Int) := by
          have h1 : UInt8.toNat 32 = 32 := rfl
          have h2 : UInt8.toNat 126 = 126 := rfl
          omega
        have HUN := hide hun
        clear hun hown c1 c2 c3
        rcases c4 with c4 | ⟨c4, c5⟩
        all_goals
          go_wp2_with fail
          refine bodyPost_ret (v := .tuple #[.slice none 0 0, .int .i64 0, fv (p : Int) 11]) (by simp [results, Try.results22, go_sem, f0, f1, fv]) rfl ?_
          rw [← HUN.out]
          refine ⟨?_, ?_⟩
          · have e : (p : Int) = ((s.size - ((s.data.toList.drop (p + 1)).length + 1) : Nat) : Int) := by
              rw [List.length_drop, size_len]; omega
            show Ending.returned (.tuple #[.slice none 0 0, .int .i64 0, fv (p : Int) 11]) = Ending.returned (.tuple #[.slice none 0 0, .int .i64 0, fv ((s.size - ((s.data.toList.drop (p + 1)).length + 1) : Nat) : Int) 11])
            rw [← e]
          · exact (hq.out.below.setCell (p := ⟨w.heap.size, 0, none⟩) (Nat.le_refl _) _).setCell (p := ⟨w.heap.size, 1, none⟩) (Nat.le_refl _) _
      · rw [if_neg c3] at hun
        rw [UInt8.lt_iff_toNat_lt, UInt8.lt_iff_toNat_lt] at c3
        have h1 : UInt8.toNat 32 = 32 := rfl
        have h2 : UInt8.toNat 126 = 126 := rfl
        have c4 : ¬ (c.toNat : Int) < 32 := by omega
        have c5 : ¬ 126 < (c.toNat : Int) := by omega
        have HUN := hide hun
        clear hun hown c1 c2 c3 h1 h2
        go_wp2_with (at_builtin; refine wpList_append_own _ rfl _ _ 25 rfl (w.heap.size + 1) 5 i0 (.int .u8 0) 1 1 Try.underlying25 hi hz0 hz1 hz2 rfl (by decide) _ _ _ rfl (HOWN.out.alloc _) ⟨wr.heap.size, 0, none⟩ 1 1 [.int .u8 (c.toNat : Int)] rfl rfl (cell_one_new _ _ _) ?c2 ?c3 ?c4 ?c5 ?_)
        case c2 => first | (intro x hx; simp at hx; subst hx; rfl) | rfl
        case c3 => unfold maxLen; omega
        case c4 => omega
        case c5 => have := hq.out.below.size; simp; omega
        intro v' w2 hown' hgrow _
        have HG := hide hgrow
        have HO := hide hown'
        clear hgrow hown' f0 f1 z0 z1 hlt
        go_wp2_with fail
        go_roundw
        case rel => exact ⟨p + 1, by go_num, by omega, hq.out.push HOWN.out HO.out HG.out _ HUN.out (by omega) (by omega)⟩
        case measure => simp [intOf]; omega
    · obtain ⟨fuel, acc, hown, hun, hfu, hal⟩ := hq.out.acc
      obtain ⟨f, rfl⟩ : ∃ f, fuel = f + 1 := ⟨fuel - 1, by omega⟩
      have hnil : s.data.toList.drop p = [] := List.drop_eq_nil_of_le (by rw [size_len]; omega)
      rw [hnil, unqL] at hun
      have HUN := hide hun
      have f0 := hq.out.blk.cell 0
      have f1 := hq.out.blk.cell 1
      have z0 := hq.out.blk.free 0
      have z1 := hq.out.blk.free 1
      have hlt := hq.out.blk.lt
      simp only [List.size_toArray, List.length_cons, List.length_nil, Nat.reduceAdd, Nat.zero_lt_succ, getElem?_pos, List.getElem_toArray, List.getElem_cons_zero, Nat.lt_add_one, List.getElem_cons_succ] at f0 f1
      clear hown hun hnil
      go_wp2_with fail
      refine bodyPost_ret (v := .tuple #[.slice none 0 0, .int .i64 0, fv (at_ : Int) 13]) (by simp [results, Try.results22, go_sem, f0, f1, fv]) rfl ?_
      rw [← HUN.out]
      exact ⟨rfl, (hq.out.below.setCell (p := ⟨w.heap.size, 0, none⟩) (Nat.le_refl _) _).setCell (p := ⟨w.heap.size, 1, none⟩) (Nat.le_refl _) _⟩
end Go.Proofs.Ytfngkdcjifdliaa
