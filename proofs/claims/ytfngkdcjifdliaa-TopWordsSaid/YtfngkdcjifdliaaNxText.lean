/- The walk of the scanner's next: a quoted text. -/
import Derived.Test.YtfngkdcjifdliaaNxt
import Derived.Test.YtfngkdcjifdliaaQuoted
import Derived.Test.YtfngkdcjifdliaaUnq
set_option linter.unusedVariables false
set_option linter.unusedSimpArgs false
set_option linter.unnecessarySimpa false
set_option linter.deprecated false
namespace Go.Proofs.Ytfngkdcjifdliaa
open Go.RowKit

/-- A row of bytes of one's own stays where others are written. -/
theorem own_wrote {P : Nat → TypeId → Prop} {B n size : Nat} {e : TypeId} {v : Value} {xs : List Value} {w w' : World} (h : w.ownsRow B e size v n xs) (hw : Wrote P w w') (hp : ∀ g, ¬ P g e) : w'.ownsRow B e size v n xs := by
  refine ⟨h.1, ?_⟩
  rcases h.2 with h2 | ⟨g, cap, cur, e1, e2, e3, e4⟩
  · exact .inl h2
  · exact .inr ⟨g, cap, cur, e1, e2, hw.block g _ e3 (by rintro c t f h; injection h with _ h2 _; subst h2; exact hp g), e4⟩
/-- What next answers: a quoted text more. -/
def NxT (B sb : Nat) (text : ByteArray) (e : Nat) (line top : Int) (ws : List Wd) (p : Nat) (bs : List UInt8) (w : World) (r : Ending) (w' : World) : Prop := ∃ a cap, Hid (w'.ownsRow w.heap.size 5 1 (.slice a bs.length cap) bs.length (Lib.byteCells bs)) ∧ NxP B sb text e line top ws ⟨4, text.extract p e, a, bs.length, cap, zS, 0, p, line, p - top + 1⟩ w r w'
/-- The world behind the region: bytes and a fault in blocks of their own. -/
structure EndT (w1 wc : World) (k9 : Nat) (v : Value) (bs : List UInt8) : Prop where
  b : Below w1.heap.size w1 wc
  o : wc.ownsRow w1.heap.size 5 1 v bs.length (Lib.byteCells bs)
  f : Blk wc k9 #[.int .i64 0, .int .i64 0] 30
theorem EndT.l1 {w1 w5 : World} {v : Value} {bs : List UInt8} (h : Below w1.heap.size w1 w5) (o : w5.ownsRow w1.heap.size 5 1 v bs.length (Lib.byteCells bs)) : EndT w1 (w5.alloc (.cells #[.int .i64 0, .int .i64 0] 30)) w5.heap.size v bs := ⟨NB.alloc h _, own_below o ((Below.refl w5.heap.size w5).alloc (Nat.le_refl _) _), Blk.new w5 _ _⟩
theorem EndT.l2 {w1 w5 : World} {k2 : Nat} {v : Value} {bs : List UInt8} (h : Below w1.heap.size w1 w5) (h2 : w1.heap.size ≤ k2) (q2 : Blk w5 k2 #[.int .i64 0, .int .i64 0] 30) (o : w5.ownsRow w1.heap.size 5 1 v bs.length (Lib.byteCells bs)) : EndT w1 ((w5.setCell ⟨k2, 0, none⟩ (.int .i64 0)).setCell ⟨k2, 1, none⟩ (.int .i64 0)) k2 v bs := ⟨NB.set (NB.set h h2) h2, own_set (own_set o q2 (by decide)) (q2.set 0 _) (by decide), (q2.set 0 _).set 1 _⟩
theorem NBT.one {w1 W' : World} {v : Value} {bs : List UInt8} (hb : Below (w1.alloc (.cells #[.int .i64 0, .int .i64 0] 30)).drew.heap.size (w1.alloc (.cells #[.int .i64 0, .int .i64 0] 30)).drew W') (o : W'.ownsRow (w1.alloc (.cells #[.int .i64 0, .int .i64 0] 30)).drew.heap.size 5 1 v bs.length (Lib.byteCells bs)) : Blk W' w1.heap.size #[.int .i64 0, .int .i64 0] 30 ∧ Below w1.heap.size w1 W' ∧ Hid (W'.ownsRow w1.heap.size 5 1 v bs.length (Lib.byteCells bs)) := ⟨(NB.one' hb).1, (NB.one' hb).2, own_base o (by simp)⟩
theorem NBT.none {w1 W' : World} {v : Value} {bs : List UInt8} (hb : Below w1.drew.heap.size w1.drew W') (o : W'.ownsRow w1.drew.heap.size 5 1 v bs.length (Lib.byteCells bs)) : Below w1.heap.size w1 W' ∧ Hid (W'.ownsRow w1.heap.size 5 1 v bs.length (Lib.byteCells bs)) := ⟨NB.none hb, o⟩
theorem quoted_ok (text : ByteArray) (p : Nat) (bs rest : List UInt8) (w : World) (hs : text.size ≤ 65536) (ht : text.data.toList.drop p = 34 :: (qBytes bs ++ 34 :: rest)) (q : Nat) (hq : q = p + (qBytes bs).length + 2) (hl : bs.length ≤ (qBytes bs).length) :
    Calls Try.prog 22 #[.string text, .int .i64 (p : Int)] w fun e w' => ∃ a cap, e = .returned (.tuple #[.slice a bs.length cap, .int .i64 (q : Int), .agg #[.int .i64 0, .int .i64 0]]) ∧ w'.ownsRow w.heap.size 5 1 (.slice a bs.length cap) bs.length (Lib.byteCells bs) ∧ Below w.heap.size w w' := by
  have hlen := congrArg List.length ht
  rw [List.length_drop, size_len text, List.length_cons, List.length_append, List.length_cons] at hlen
  refine (quoted_any text p w (by omega) (by omega)).mono ?_
  intro e w' h
  have ed : text.data.toList.drop (p + 1) = qBytes bs ++ 34 :: rest := by rw [← List.drop_drop, ht]; rfl
  rw [ed, unq_quoted bs text.size [] rest (by omega)] at h
  obtain ⟨⟨a, cap, he, ho⟩, hb⟩ := h
  refine ⟨a, cap, ?_, ho, hb⟩
  rw [he, show text.size - rest.length = q by omega]
  rfl
theorem NxT.done {B sb h e p : Nat} {text : ByteArray} {line top : Int} {ws : List Wd} {bs : List UInt8} {ao : Option Addr} {cap : Nat} {v' : Value} {w w' : World} {a : Act} (hh : w.heap.size = h) (hf : Blk w' h #[.int .i64 0, .int .i64 0] 30) (hw : Wrote (ScP B sb) w w') (hs : ScW B sb text (e : Int) line top (ws ++ [⟨4, text.extract p e, ao, bs.length, cap, zS, 0, p, line, p - top + 1⟩]) v' w')
    (ho : w'.ownsRow w.heap.size 5 1 (.slice ao bs.length cap) bs.length (Lib.byteCells bs))
    (h2 : (a.tmps[2]?).getD undef = .pointer (some ⟨h, 0, none⟩) := by rfl) (hd : a.defers = [] := by rfl) : bodyPost Try.prog Try.f10 (NxT B sb text e line top ws p bs w) .ret a ((w'.setCell ⟨h, 0, none⟩ (.int .i64 0)).setCell ⟨h, 1, none⟩ (.int .i64 0)) :=
  ret10 h2 hd ((hf.set 0 _).set 1 _) ⟨ao, cap, hide (own_set (own_set ho hf (by decide)) (hf.set 0 _) (by decide)), rfl, v', hide ⟨ScW.fault (ScW.fault hs hf) (hf.set 0 (.int .i64 0)), ScP.fault (ScP.fault hw (Nat.le_of_eq hh) _ _) (Nat.le_of_eq hh) _ _⟩⟩
set_option maxHeartbeats 8000000 in
set_option maxRecDepth 100000 in
theorem next_text (B sb : Nat) (text : ByteArray) (p : Nat) (bs : List UInt8) (rest : List UInt8) (line top : Int) (ws : List Wd) (v : Value) (w : World) (h : ScW B sb text (p : Int) line top ws v w) (hB : B ≤ w.heap.size)
    (ht : text.data.toList.drop p = 34 :: (qBytes bs ++ 34 :: rest)) (hbl : bs.length ≤ (qBytes bs).length) (hs : text.size ≤ 65536) (htop : 0 ≤ top ∧ top ≤ p) (hw : ws.length ≤ 100000) (q : Nat) (hq : q = p + (qBytes bs).length + 2) :
    Calls Try.prog 10 #[.pointer (some ⟨sb, 0, none⟩)] w (NxT B sb text q line top ws p bs w) := by
  have hqs : p ≤ q ∧ q ≤ text.size := by
    have := congrArg List.length ht
    rw [List.length_drop, size_len text, List.length_cons, List.length_append, List.length_cons] at this
    omega
  obtain ⟨hps, hc⟩ := get_drop ht
  have hpi : (p : Int) < (text.size : Int) := by omega
  have HQT := hide (fun W => quoted_ok text p bs rest W hs ht q hq hbl)
  have HQS := hide hqs
  clear hq hqs hbl
  have HG := hide (fun W => great_any 34 W)
  have HSM := hide (fun W => small_any 34 W)
  have HDG := hide (fun W => digit_any 34 W)
  have HH := hide h
  have e0 := h.b.cell 0
  have e1 := h.b.cell 1
  have el := h.b.lt
  clear h ht
  go_enter Try.func10, Try.ntmps10
  go_upto_region 1 with fail
  go_quiet (fail)
  go_upto_region 16 with (first | (go_at_call 17; refine (HG.out _).mono ?_; rintro e w' ⟨rfl, rfl⟩) | (go_at_call 18; refine (HSM.out _).mono ?_; rintro e w' ⟨rfl, rfl⟩) | (go_at_call 20; refine (HDG.out _).mono ?_; rintro e w' ⟨rfl, rfl⟩))
  clear e0 e1 el
  obtain ⟨h, hh⟩ : ∃ h, w.heap.size = h := ⟨_, rfl⟩
  have hs1 : ScW B sb text (p : Int) line top ws v ((w.alloc (.cells #[.int .i64 0, .int .i64 0] 30)).drewN nq) := (HH.out.below ((Below.refl w.heap.size w).alloc (Nat.le_refl _) _)).drewN _
  have hf1 : Blk ((w.alloc (.cells #[.int .i64 0, .int .i64 0] 30)).drewN nq) h #[.int .i64 0, .int .i64 0] 30 := hh ▸ Blk.new w _ _
  have hw1 : Wrote (ScP B sb) w ((w.alloc (.cells #[.int .i64 0, .int .i64 0] 30)).drewN nq) := (Wrote.alloc _ _ _).trans (Wrote.draw _ _ _)
  have HHH := hide hh
  rw [hh]
  clear hh
  generalize (w.alloc (.cells #[.int .i64 0, .int .i64 0] 30)).drewN nq = w1 at hs1 hf1 hw1 ⊢
  have e0 := hs1.b.cell 0
  have e1 := hs1.b.cell 1
  have el := hs1.b.lt
  have HS1 := hide hs1
  have HF1 := hide hf1
  have HW1 := hide hw1
  clear hs1 hf1 hw1
  go_cut [7, 8, 9] from 83 to 95 (fun v7 v8 v9 wc => ∃ k9 a cap, v9 = .pointer (some ⟨k9, 0, none⟩) ∧ v7 = .slice a bs.length cap ∧ v8 = .int .i64 (q : Int) ∧ Hid (EndT w1 wc k9 (.slice a bs.length cap) bs))
  case first =>
    have hw1d := hide (show Below w1.heap.size w1 w1.drew from (Below.refl _ _).drew)
    go_region_held3 (fun W => Hid (Below w1.heap.size w1 W) ∧ W.cell? ⟨sb, 0, none⟩ = some (.string text) ∧ W.cell? ⟨sb, 1, none⟩ = some (.int .i64 (p : Int)))
      (first | exact NB.all HS1 hw1d | (refine NB.all HS1 ?_; repeat' (with_reducible (first | exact (Hid.out (And.left (by assumption))) | exact hw1d.out | exact Below.refl _ _ | refine Below.drew ?_ | refine NB.alloc ?_ _ | refine NB.set ?_ (by omega) | refine NB.below ?_ (by assumption)))))
      (first | (go_at_call 22; refine (HQT.out _).mono ?_; rintro e w5 ⟨a, cap, rfl, ho5, hb5⟩; have hz5 := hb5.size; simp only [World.size_alloc, World.size_drew] at hz5; first
        | (obtain ⟨q2, hbw, how⟩ := NBT.one hb5 ho5; clear ho5; have c0 := q2.cell 0; have c1 := q2.cell 1; have d0 := q2.free 0; have d1 := q2.free 1; have m1 := q2.lt)
        | (obtain ⟨hbw, how⟩ := NBT.none hb5 ho5; clear ho5)))
    all_goals
      go_wp2_with fail
      go_meet
      refine ⟨_, a, cap, rfl, rfl, rfl, hide ?_⟩
      with_reducible (first
        | exact EndT.l1 hbw how.out
        | exact EndT.l2 hbw (by omega) q2 how.out)
  case rest =>
    obtain ⟨k9, a, cap, rfl, rfl, rfl, hc⟩ := hcut
    have hs2 := HS1.out.below hc.out.b
    have hf2 := HF1.out.below hc.out.b
    have HW2 := hide (HW1.out.trans (Wrote.of_below hc.out.b))
    have hn2 := HW1.out.size
    have HN := hide hn2
    have hk9 := hc.out.f
    have b1 := hk9.cell 1
    have HP := hide (show Calls Try.prog 11 #[.pointer (some ⟨sb, 0, none⟩), .agg #[.int .i64 4, .string ⟨#[]⟩, .slice a bs.length cap, .int .u64 0, .int .u64 0, .int .u64 0, .int .u64 0, .int .i64 0, .int .i64 0, .int .i64 0, .int .i64 0], .int .i64 (q : Int)] wc _ from put_any B sb text p q line top ws v 4 0 ⟨#[]⟩ a bs.length cap zS wc hs2 (Nat.le_trans hB (Nat.le_trans hn2 hc.out.b.size)) HQS.out.1 HQS.out.2 (by omega) htop hw)
    have HF2 := hide hf2
    have HO2 := hide hc.out.o
    clear e0 e1 el hs2 hf2 hn2 hk9 hc
    go_wp2_with (go_at_call 11; refine HP.out.mono ?_; rintro e w' ⟨rfl, v', hp⟩; have hf3 := ScP.other hp.out.2 HF2.out; have HF3 := hide hf3; have g0 := hf3.cell 0; have g1 := hf3.cell 1; have x0 := hf3.free 0; have x1 := hf3.free 1; clear hf3)
    refine NxT.done HHH.out HF3.out (HW2.out.trans hp.out.2) hp.out.1 (own_base (own_wrote HO2.out hp.out.2 ?_) HN.out)
    rintro g (⟨_, h⟩ | ⟨h, _⟩) <;> exact absurd h (by decide)
end Go.Proofs.Ytfngkdcjifdliaa
