/- The walk of Scan, on words as data. -/
import Derived.Test.YtfngkdcjifdliaaTok
set_option linter.unusedVariables false
set_option linter.unusedSimpArgs false
set_option linter.unnecessarySimpa false
set_option linter.deprecated false
namespace Go.Proofs.Ytfngkdcjifdliaa
open Go.RowKit

/-- The world at a round's head. -/
structure ScS (text : ByteArray) (toks : List Tk) (w : World) (left : List Tk) (p : Nat) (ws : List Wd) (v : Value) (wr : World) : Prop where
  sc : ScW w.heap.size (w.heap.size + 1) text (p : Int) 1 0 ws v wr
  b : Below w.heap.size w wr
  f : Blk wr w.heap.size #[.int .i64 0, .int .i64 0] 30
  lex : LexH text p left
  mt : ∃ done, toks = done ++ left ∧ All2 (MT w.heap.size wr) done ws
  len : ws.length ≤ p
theorem ScS.keep {text : ByteArray} {toks : List Tk} {w : World} {left : List Tk} {p : Nat} {ws : List Wd} {v : Value} {wr wr' : World} (h : ScS text toks w left p ws v wr) (hb : Below wr.heap.size wr wr') : ScS text toks w left p ws v wr' := by
  obtain ⟨done, h1, h2⟩ := h.mt
  exact ⟨h.sc.below hb, below_next h.b hb, h.f.below hb, h.lex, ⟨done, h1, MT.all h2 (Wrote.of_below (P := ScP 0 0) hb) scp5⟩, h.len⟩
theorem scp_below {B sb : Nat} {w W W' : World} (hb : Below w.heap.size w W) (hw : Wrote (ScP B sb) W W') (hB : w.heap.size ≤ B) (hs : w.heap.size ≤ sb) : Below w.heap.size w W' :=
  hb.trans (hw.below hb.size (by rintro k t (⟨rfl, _⟩ | ⟨_, h⟩) <;> omega))
/-- A word more is read. -/
theorem ScS.step {text : ByteArray} {toks : List Tk} {w : World} {t : Tk} {left : List Tk} {p e k : Nat} {ws : List Wd} {v v' : Value} {wr w1 w2 : World} {x : Wd} (h : ScS text toks w (t :: left) p ws v wr) (hpe : p < e)
    (h1 : ScW w.heap.size (w.heap.size + 1) text (e : Int) 1 0 (ws ++ [x]) v' w1) (hw1 : Wrote (ScP w.heap.size (w.heap.size + 1)) wr w1) (hm : MT w.heap.size w1 t x) (w1' : World) (hb1 : Below w1.heap.size w1 w1')
    (h2 : ScW w.heap.size (w.heap.size + 1) text ((e + k : Nat) : Int) 1 0 (ws ++ [x]) v' w2) (hw2 : Wrote (ScP w.heap.size (w.heap.size + 1)) w1' w2) (hl : LexH text (e + k) left) : ScS text toks w left (e + k) (ws ++ [x]) v' w2 := by
  obtain ⟨done, g1, g2⟩ := h.mt
  have b1 := scp_below h.b hw1 (Nat.le_refl _) (by omega)
  have b2 := scp_below (below_next b1 hb1) hw2 (Nat.le_refl _) (by omega)
  refine ⟨h2, b2, ScP.other hw2 ((ScP.other hw1 h.f).below hb1), hl, ⟨done ++ [t], by simp [g1], ?_⟩, ?_⟩
  · have f1 := MT.all g2 hw1 scp5
    have f2 := forall2_snoc f1 hm
    exact MT.all (MT.all f2 (Wrote.of_below (P := ScP 0 0) hb1) scp5) hw2 scp5
  · rw [List.length_append]
    have := h.len
    simp
    omega
/-- What Scan answers. -/
def ScanP (toks : List Tk) (w : World) (r : Ending) (w' : World) : Prop := ∃ v ws last, r = .returned (.tuple #[v, .agg #[.int .i64 0, .int .i64 0]]) ∧ w'.ownsRow w.heap.size 36 11 v (ws.length + 1) (wdsC (ws ++ [last])) ∧ last.kind = 7 ∧ All2 (MT w.heap.size w') toks ws ∧ Below w.heap.size w w'
theorem ret5 {R : Ending → World → Prop} {a : Act} {W : World} {k : Nat} {v : Value} (h2 : (a.tmps[2]?).getD undef = v) (h3 : (a.tmps[3]?).getD undef = .pointer (some ⟨k, 0, none⟩)) (hd : a.defers = []) (hb : Blk W k #[.int .i64 0, .int .i64 0] 30) (hR : R (.returned (.tuple #[v, .agg #[.int .i64 0, .int .i64 0]])) W) : bodyPost Try.prog Try.f5 R .ret a W := by
  have g0 : W.cell? ⟨k, 0, none⟩ = some (.int .i64 0) := hb.cell 0
  have g1 : W.cell? ⟨k, 1, none⟩ = some (.int .i64 0) := hb.cell 1
  refine ⟨hd, .tuple #[v, .agg #[.int .i64 0, .int .i64 0]], ?_, hR⟩
  simp [results, Try.results5, h2, h3, go_sem, g0, g1, Try.isAgg30, Try.sizeOf30]

set_option maxHeartbeats 8000000 in
set_option maxRecDepth 100000 in
theorem scan_ok (text : ByteArray) (toks : List Tk) (k0 : Nat) (w : World) (h0 : text.data.toList.drop 0 = List.replicate k0 32 ++ text.data.toList.drop k0) (hl : LexH text k0 toks) (hs : text.size ≤ 65536) :
    Calls Try.prog 5 #[.string text] w (ScanP toks w) := by
  have HL := hide hl
  have H0 := hide h0
  have hsi : (text.size : Int) ≤ 65536 := by omega
  clear hl h0
  go_enter Try.func5, Try.ntmps5
  go_wp2_with fail
  have hsc0 : ScW w.heap.size (w.heap.size + 1) text ((0 : Nat) : Int) 1 0 [] (.slice none 0 0) ((w.alloc (.cells #[.int .i64 0, .int .i64 0] 30)).alloc (.cells #[.string text, .int .i64 0, .int .i64 1, .int .i64 0, .slice none 0 0] 41)) := ⟨NB.new1, World.ownsRow_nil _ _ _ _⟩
  have hb0 : Below w.heap.size w ((w.alloc (.cells #[.int .i64 0, .int .i64 0] 30)).alloc (.cells #[.string text, .int .i64 0, .int .i64 1, .int .i64 0, .slice none 0 0] 41)) := NB.alloc (NB.alloc (Below.refl _ _) _) _
  have hf0 : Blk ((w.alloc (.cells #[.int .i64 0, .int .i64 0] 30)).alloc (.cells #[.string text, .int .i64 0, .int .i64 1, .int .i64 0, .slice none 0 0] 41)) w.heap.size #[.int .i64 0, .int .i64 0] 30 := (Blk.new w _ _).alloc _
  generalize ((w.alloc (.cells #[.int .i64 0, .int .i64 0] 30)).alloc (.cells #[.string text, .int .i64 0, .int .i64 1, .int .i64 0, .slice none 0 0] 41)) = w0 at hsc0 hb0 hf0 ⊢
  refine (skip_sp w.heap.size (w.heap.size + 1) text 0 k0 (text.data.toList.drop k0) 1 0 [] (.slice none 0 0) w0 hsc0 H0.out (Nat.zero_le _) HL.out.first (by omega)).mono ?_
  rintro e w1 ⟨rfl, hp1⟩
  have HI := hide (ScS.mk (toks := toks) (left := toks) (p := k0) (by have := hp1.out.1; rwa [Nat.zero_add] at this) (scp_below hb0 hp1.out.2 (Nat.le_refl _) (by omega)) (ScP.other hp1.out.2 hf0) HL.out ⟨[], rfl, .nil⟩ (Nat.zero_le _))
  clear hsc0 hb0 hf0 hp1
  go_wp2_with fail
  go_loopg [] (toks.length) (fun m wr => ∃ left p ws v, Hid (m = left.length) ∧ Hid (ScS text toks w left p ws v wr))
  case atStart => exact ⟨toks, k0, [], _, hide rfl, HI⟩
  case round =>
    obtain ⟨left, p, ws, v, hu, hr⟩ := hrel
    have e1 := hr.out.sc.b.cell 1
    have el := hr.out.sc.b.lt
    cases left with
    | nil =>
      have hpe : p = text.size := hr.out.lex
      have hlt : ¬ (p : Int) < (text.size : Int) := by omega
      have hln := hr.out.len
      have HP := hide (show Calls Try.prog 11 #[.pointer (some ⟨w.heap.size + 1, 0, none⟩), .agg #[.int .i64 7, .string ⟨#[]⟩, .slice none 0 0, .int .u64 0, .int .u64 0, .int .u64 0, .int .u64 0, .int .i64 0, .int .i64 0, .int .i64 0, .int .i64 0], .int .i64 (p : Int)] wr _ from put_any w.heap.size (w.heap.size + 1) text p p 1 0 ws v 7 0 ⟨#[]⟩ none 0 0 zS wr hr.out.sc hr.out.b.size (Nat.le_refl _) (by omega) (by omega) ⟨by omega, by omega⟩ (by omega))
      clear hpe hln
      go_wp2_with (go_at_call 11; refine HP.out.mono ?_; rintro e w2 ⟨rfl, v', hp⟩; have hf := ScP.other hp.out.2 hr.out.f; have HF := hide hf; have g0 := hf.cell 0; have g1 := hf.cell 1; have x0 := hf.free 0; have x1 := hf.free 1; have s4 := hp.out.1.b.cell 4; have sl := hp.out.1.b.lt; clear hf)
      have hd := hr.out.mt
      have hw3 := (Wrote.set (P := fun _ t => t = 30) w2 (.int .i64 0) HF.out rfl (i := 0)).trans (Wrote.set (P := fun _ t => t = 30) (w2.setCell ⟨w.heap.size, 0, none⟩ (.int .i64 0)) (.int .i64 0) (HF.out.set 0 _) rfl (i := 1))
      refine ret5 rfl rfl rfl ((HF.out.set 0 _).set 1 _) ⟨v', ws, Wd.mk 7 (text.extract p p) none 0 0 zS 0 (p : Int) 1 ((p : Int) - 0 + 1), rfl, ?_, rfl, ?_, ?_⟩
      · have ho := hp.out.1.own
        rw [List.length_append] at ho
        exact own_set (own_set ho HF.out (by decide)) (HF.out.set 0 _) (by decide)
      · obtain ⟨done, h1, h2⟩ := hd
        rw [List.append_nil] at h1
        subst h1
        exact MT.all (MT.all h2 hp.out.2 scp5) hw3 (fun g h => absurd h (by decide))
      · exact ((scp_below hr.out.b hp.out.2 (Nat.le_refl _) (by omega)).setCell (p := ⟨w.heap.size, 0, none⟩) (Nat.le_refl _) _).setCell (p := ⟨w.heap.size, 1, none⟩) (Nat.le_refl _) _
    | cons t left =>
      obtain ⟨e, k, htk, hsp, hek, hlx⟩ := hr.out.lex
      have hpt := htk.1
      have hpe := htk.2.1
      have hlt : (p : Int) < (text.size : Int) := by omega
      have hln := hr.out.len
      have HN := hide (next_tk w.heap.size (w.heap.size + 1) text p e t ws v wr hr.out.sc hr.out.b.size htk hs (by omega))
      have HK := hide (fun W v' x (h : ScW w.heap.size (w.heap.size + 1) text (e : Int) 1 0 (ws ++ [x]) v' W) => skip_sp w.heap.size (w.heap.size + 1) text e k (text.data.toList.drop (e + k)) 1 0 (ws ++ [x]) v' W h hsp hpe hlx.first (by omega))
      have HLX := hide hlx
      have HPT := hide hpt
      clear htk hsp hek hlx hpe hln hpt
      go_wp2_with (go_at_call 10; refine HN.out.mono ?_; rintro r w2 ⟨rfl, x, v', hp⟩; clear e1 el; have HP2 := hide hp)
      refine (HK.out _ _ _ (HP2.out.out.1.below ((Below.refl w2.heap.size w2).alloc (Nat.le_refl _) _))).mono ?_
      rintro r w3 ⟨rfl, hp3⟩
      go_wp2_with fail
      go_roundg (left.length)
      case measure => rw [hu.out]; simp
      case rel => exact ⟨left, e + k, ws ++ [x], v', hide rfl, hide (hr.out.step HPT.out HP2.out.out.1 HP2.out.out.2.1 HP2.out.out.2.2 _ ((Below.refl w2.heap.size w2).alloc (Nat.le_refl _) _) hp3.out.1 hp3.out.2 HLX.out)⟩
end Go.Proofs.Ytfngkdcjifdliaa
