/- The walk of open. The book; the walk of lexical. -/
import Derived.Test.YtalicfpcmcbdbaaZNames
import Derived.RangeFuncBox
set_option linter.unusedVariables false
set_option linter.unusedSimpArgs false
set_option linter.unnecessarySimpa false
set_option linter.deprecated false
namespace Go.Proofs.Ytalicfpcmcbdbaa
open Go.RowKit

def inB (s : ByteArray) (l : List ByteArray) : Bool := l.any (fun t => decide (t = s))
theorem inB_iff (s : ByteArray) (l : List ByteArray) : inB s l = true ↔ s ∈ l := by
  unfold inB
  rw [List.any_eq_true]
  constructor
  · rintro ⟨t, ht, e⟩; simp at e; subst e; exact ht
  · intro h; exact ⟨s, h, by simp⟩
/-- The sorts, in the order in which they come first. -/
def addS (acc : List ByteArray) (p : Pd) : List ByteArray := if inB p.sort acc = true then acc else acc ++ [p.sort]
def sortsL (l : List Pd) : List ByteArray := l.foldl addS []
/-- Has a sort a production with Lex (or one without)? -/
def isLex (l : List Pd) (s : ByteArray) (b : Bool) : Bool := l.any (fun p => decide (p.sort = s) && (p.lex == b))
/-- What the book says of a name: 1: lexical, 2: not, 3: both, 0: no sort. -/
def lexOf (l : List Pd) (s : ByteArray) : Int := (if isLex l s true then 1 else 0) + (if isLex l s false then 2 else 0)
theorem sortsL_snoc (l : List Pd) (p : Pd) : sortsL (l ++ [p]) = addS (sortsL l) p := by unfold sortsL; rw [List.foldl_append]; rfl
theorem isLex_snoc (l : List Pd) (p : Pd) (s : ByteArray) (b : Bool) : isLex (l ++ [p]) s b = (isLex l s b || (decide (p.sort = s) && (p.lex == b))) := by unfold isLex; rw [List.any_append]; simp
theorem mem_sortsL (s : ByteArray) : ∀ (l : List Pd), s ∈ sortsL l ↔ ∃ p ∈ l, p.sort = s := by
  have key : ∀ (l : List Pd) (acc : List ByteArray), s ∈ l.foldl addS acc ↔ s ∈ acc ∨ ∃ p ∈ l, p.sort = s := by
    intro l
    induction l with
    | nil => intro acc; simp
    | cons p l ih =>
      intro acc
      rw [List.foldl_cons, ih]
      unfold addS
      constructor
      · rintro (h | h)
        · split at h
          · exact Or.inl h
          · rcases List.mem_append.1 h with h | h
            · exact Or.inl h
            · simp at h; exact Or.inr ⟨p, by simp, h.symm⟩
        · obtain ⟨q, hq, e⟩ := h
          exact Or.inr ⟨q, by simp [hq], e⟩
      · rintro (h | ⟨q, hq, e⟩)
        · left; split
          · exact h
          · exact List.mem_append_left _ h
        · rcases List.mem_cons.1 hq with rfl | hq
          · left; split
            · rename_i h2; rw [← e]; exact (inB_iff _ _).1 h2
            · rw [← e]; simp
          · exact Or.inr ⟨q, hq, e⟩
  intro l
  unfold sortsL
  rw [key]
  simp
theorem lexOf_cases (l : List Pd) (s : ByteArray) : (lexOf l s = 0 ∧ s ∉ sortsL l) ∨ (s ∈ sortsL l ∧ (lexOf l s = 1 ∨ lexOf l s = 2 ∨ lexOf l s = 3)) := by
  have hm := mem_sortsL s l
  unfold lexOf
  cases h1 : isLex l s true <;> cases h2 : isLex l s false
  · left
    refine ⟨rfl, fun h => ?_⟩
    obtain ⟨p, hp, e⟩ := hm.1 h
    unfold isLex at h1 h2
    rw [List.any_eq_false] at h1 h2
    have g1 := h1 p hp
    have g2 := h2 p hp
    rw [decide_eq_true e] at g1 g2
    cases hl : p.lex <;> rw [hl] at g1 g2 <;> simp at g1 g2
  all_goals
    right
    refine ⟨hm.2 ?_, by simp⟩
    unfold isLex at h1 h2
  · obtain ⟨p, hp, e⟩ := List.any_eq_true.1 h2
    exact ⟨p, hp, by simp at e; exact e.1⟩
  · obtain ⟨p, hp, e⟩ := List.any_eq_true.1 h1
    exact ⟨p, hp, by simp at e; exact e.1⟩
  · obtain ⟨p, hp, e⟩ := List.any_eq_true.1 h1
    exact ⟨p, hp, by simp at e; exact e.1⟩
/-- What a production more makes of a name's number. -/
def orB (n : Int) (b : Bool) : Int := if b then (if n = 0 ∨ n = 2 then n + 1 else n) else (if n = 0 ∨ n = 1 then n + 2 else n)
theorem lexOf_snoc (l : List Pd) (p : Pd) : lexOf (l ++ [p]) = upd (lexOf l) p.sort (orB (lexOf l p.sort) p.lex) := by
  funext s
  unfold upd
  by_cases e : s = p.sort
  · subst e
    rw [if_pos rfl]
    unfold lexOf orB
    rw [isLex_snoc, isLex_snoc]
    cases isLex l p.sort true <;> cases isLex l p.sort false <;> cases p.lex <;> simp
  · rw [if_neg e]
    unfold lexOf
    rw [isLex_snoc, isLex_snoc, decide_eq_false (fun h => e h.symm)]
    simp
theorem sortsL_len (l : List Pd) : (sortsL l).length ≤ l.length := by
  have key : ∀ (l : List Pd) (acc : List ByteArray), (l.foldl addS acc).length ≤ acc.length + l.length := by
    intro l
    induction l with
    | nil => intro acc; simp
    | cons p l ih =>
      intro acc
      rw [List.foldl_cons]
      have h1 := ih (addS acc p)
      have h2 : (addS acc p).length ≤ acc.length + 1 := by unfold addS; split <;> simp
      rw [List.length_cons]
      omega
  have := key l []
  rw [List.length_nil, Nat.zero_add] at this
  exact this
theorem orB_i64 (n : Int) (b : Bool) (h : n = 0 ∨ n = 1 ∨ n = 2 ∨ n = 3) : orB n b ≠ 0 ∧ i64 (orB n b) ∧ (orB n b = 0 ∨ orB n b = 1 ∨ orB n b = 2 ∨ orB n b = 3) := by
  unfold orB i64
  rcases h with rfl | rfl | rfl | rfl <;> cases b <;> simp
/-- The world at a round's head. -/
structure OpS (w1 : World) (d : Df) (a2 : Option Addr) (c2 : Nat) (a3 : Option Addr) (c3 : Nat) (a4 : Option Addr) (c4 : Nat) (a5 : Option Addr) (c5 : Nat) (a6 : Option Addr) (c6 : Nat) (bb m : Nat) (k : Nat) (v : Value) (wr : World) : Prop where
  b : Below w1.heap.size w1 wr
  bk : Blk wr bb #[.string d.start, .string d.layout, .slice a2 d.prods.length c2, .slice a3 d.chains.length c3, .slice a4 d.follows.length c4, .slice a5 d.rejects.length c5, .slice a6 d.boxes.length c6, v, .map (some m)] 87
  ow : OwnS w1.heap.size v (sortsL (d.prods.take k)) wr
  mp : MapF wr m k (lexOf (d.prods.take k))
  le : k ≤ d.prods.length
  nb : w1.heap.size ≤ bb
  nm : w1.heap.size ≤ m
theorem OpS.keep {w1 : World} {d : Df} {a2 : Option Addr} {c2 : Nat} {a3 : Option Addr} {c3 : Nat} {a4 : Option Addr} {c4 : Nat} {a5 : Option Addr} {c5 : Nat} {a6 : Option Addr} {c6 : Nat} {bb m k : Nat} {v : Value} {wr wr' : World} (h : OpS w1 d a2 c2 a3 c3 a4 c4 a5 c5 a6 c6 bb m k v wr) (hb : Below wr.heap.size wr wr') : OpS w1 d a2 c2 a3 c3 a4 c4 a5 c5 a6 c6 bb m k v wr' :=
  ⟨below_next h.b hb, h.bk.below hb, h.ow.below hb, h.mp.below hb, h.le, h.nb, h.nm⟩
/-- The world in the midst of a round: the sort is laid, its number is not. -/
structure OpT (w1 : World) (d : Df) (a2 : Option Addr) (c2 : Nat) (a3 : Option Addr) (c3 : Nat) (a4 : Option Addr) (c4 : Nat) (a5 : Option Addr) (c5 : Nat) (a6 : Option Addr) (c6 : Nat) (bb m : Nat) (k : Nat) (v : Value) (kx : Nat) (xc : Array Value) (wr : World) : Prop where
  b : Below w1.heap.size w1 wr
  bk : Blk wr bb #[.string d.start, .string d.layout, .slice a2 d.prods.length c2, .slice a3 d.chains.length c3, .slice a4 d.follows.length c4, .slice a5 d.rejects.length c5, .slice a6 d.boxes.length c6, v, .map (some m)] 87
  ow : OwnS w1.heap.size v (sortsL (d.prods.take (k + 1))) wr
  mp : MapF wr m k (lexOf (d.prods.take k))
  x : Blk wr kx xc 38
  nb : w1.heap.size ≤ bb
  nm : w1.heap.size ≤ m
/-- What open answers: the book. -/
def BookP (d : Df) (a2 : Option Addr) (c2 : Nat) (a3 : Option Addr) (c3 : Nat) (a4 : Option Addr) (c4 : Nat) (a5 : Option Addr) (c5 : Nat) (a6 : Option Addr) (c6 : Nat) (w : World) (e : Ending) (w' : World) : Prop := ∃ bb m v, e = .returned (.pointer (some ⟨bb, 0, none⟩)) ∧ Hid (Blk w' bb #[.string d.start, .string d.layout, .slice a2 d.prods.length c2, .slice a3 d.chains.length c3, .slice a4 d.follows.length c4, .slice a5 d.rejects.length c5, .slice a6 d.boxes.length c6, v, .map (some m)] 87 ∧ OwnS w.heap.size v (sortsL d.prods) w' ∧ MapF w' m d.prods.length (lexOf d.prods) ∧ w.heap.size ≤ bb ∧ w.heap.size ≤ m ∧ Below w.heap.size w w')

set_option maxHeartbeats 4000000 in
set_option maxRecDepth 100000 in
theorem open_at (d : Df) (a2 : Option Addr) (c2 : Nat) (a3 : Option Addr) (c3 : Nat) (a4 : Option Addr) (c4 : Nat) (a5 : Option Addr) (c5 : Nat) (a6 : Option Addr) (c6 : Nat) (w : World) (hp : Row PdAt 5 d.prods a2 w) (hln : d.prods.length ≤ 100000) : Calls Try.prog 34 #[.agg #[.string d.start, .string d.layout, .slice a2 d.prods.length c2, .slice a3 d.chains.length c3, .slice a4 d.follows.length c4, .slice a5 d.rejects.length c5, .slice a6 d.boxes.length c6]] w (BookP d a2 c2 a3 c3 a4 c4 a5 c5 a6 c6 w) := by
  obtain ⟨i0, hi, hz0, hz1, hz2⟩ := info_parts info9
  have hmm := @run_makeMap Try.prog
  obtain ⟨w1, hw1⟩ : ∃ w1, w.alloc (.cells #[.string d.start, .string d.layout, .slice a2 d.prods.length c2, .slice a3 d.chains.length c3, .slice a4 d.follows.length c4, .slice a5 d.rejects.length c5, .slice a6 d.boxes.length c6] 28) = w1 := ⟨_, rfl⟩
  obtain ⟨kb, hkb⟩ : ∃ kb, w.heap.size = kb := ⟨_, rfl⟩
  have HBL := hide (show Blk w1 kb #[.string d.start, .string d.layout, .slice a2 d.prods.length c2, .slice a3 d.chains.length c3, .slice a4 d.follows.length c4, .slice a5 d.rejects.length c5, .slice a6 d.boxes.length c6] 28 by rw [← hw1, ← hkb]; exact Blk.new w _ _)
  have HB0 := hide (show Below w.heap.size w w1 by rw [← hw1]; exact (Below.refl _ _).alloc (Nat.le_refl _) _)
  have HR := hide (hp.below PdAt.stable HB0.out)
  have HW1 := hide hw1
  have HKB := hide hkb
  clear hp hw1 hkb
  go_enter Try.func34, Try.ntmps34
  go_upto_region 1 with fail
  rw [HW1.out, HKB.out]
  have d0 := HBL.out.cell 0
  have d1 := HBL.out.cell 1
  have d2 := HBL.out.cell 2
  have d3 := HBL.out.cell 3
  have d4 := HBL.out.cell 4
  have d5 := HBL.out.cell 5
  have d6 := HBL.out.cell 6
  have dl := HBL.out.lt
  go_wp2_with fail
  have HI0 := hide (show OpS w1 d a2 c2 a3 c3 a4 c4 a5 c5 a6 c6 (w1.heap.size + 1) w1.heap.size 0 (.slice none 0 0) ((w1.alloc (.map #[] 0)).alloc (.cells #[.string d.start, .string d.layout, .slice a2 d.prods.length c2, .slice a3 d.chains.length c3, .slice a4 d.follows.length c4, .slice a5 d.rejects.length c5, .slice a6 d.boxes.length c6, .slice none 0 0, .map (some w1.heap.size)] 87)) from
    ⟨NB.alloc (NB.alloc (Below.refl _ _) _) _, NB.new1, OwnS.nil _ _, (MapF.made w1).below ((Below.refl _ _).alloc (Nat.le_refl _) _), Nat.zero_le _, by omega, Nat.le_refl _⟩)
  clear d0 d1 d2 d3 d4 d5 d6 dl hmm
  generalize ((w1.alloc (.map #[] 0)).alloc (.cells #[.string d.start, .string d.layout, .slice a2 d.prods.length c2, .slice a3 d.chains.length c3, .slice a4 d.follows.length c4, .slice a5 d.rejects.length c5, .slice a6 d.boxes.length c6, .slice none 0 0, .map (some w1.heap.size)] 87)) = w2 at HI0 ⊢
  generalize w1.heap.size + 1 = bb at HI0 ⊢
  obtain ⟨m, hm⟩ : ∃ m, w1.heap.size = m := ⟨_, rfl⟩
  rw [hm] at HI0 ⊢
  have HWS := hide hm
  clear hm
  go_loopg [13] d.prods.length (fun u v13 wr => ∃ (k : Nat) (v : Value), Hid (u = d.prods.length - k) ∧ v13 = .int .i64 (k : Int) ∧ Hid (OpS w1 d a2 c2 a3 c3 a4 c4 a5 c5 a6 c6 bb m k v wr))
  case atStart => exact ⟨0, _, hide rfl, rfl, hide HI0⟩
  case round =>
    obtain ⟨k, v, hu, rfl, hh⟩ := hrel
    have hkl := hh.out.le
    by_cases hlt : k < d.prods.length
    · have hlti : (k : Int) < (d.prods.length : Int) := by omega
      obtain ⟨b, o, rfl, hb, hat⟩ := (HR.out.below PdAt.stable hh.out.b).get hlt
      have hx := hat k hlt
      have hts := take_snoc d.prods k hlt
      generalize d.prods[k] = p at hx hts
      clear hat
      obtain ⟨ap, cp, ⟨e0, e1, e2, e3, e4⟩, _⟩ := hx.cells
      have hsh : short p.sort := hx.1.s
      have HSH := hide hsh
      have HSS := hide (sortsL_snoc (d.prods.take k) p)
      have HLS := hide (lexOf_snoc (d.prods.take k) p)
      rw [← hts] at HSS HLS
      have HLC := hide (lexOf_cases (d.prods.take k) p.sort)
      have HSL := hide (sortsL_len (d.prods.take k))
      obtain ⟨n0, hn0⟩ : ∃ n, lexOf (d.prods.take k) p.sort = n := ⟨_, rfl⟩
      rw [hn0] at HLS HLC
      have hkx := Blk.new wr #[.bool p.lex, .string p.sort, .string p.cons, .bool p.bracket, .slice ap p.syms.length cp] 38
      have h3 := hh.out.keep ((Below.refl wr.heap.size wr).alloc (Nat.le_refl _) (.cells #[.bool p.lex, .string p.sort, .string p.cons, .bool p.bracket, .slice ap p.syms.length cp] 38))
      have HN0 := hide hn0
      have hbs := hh.out.b.size
      clear hx hts hn0
      go_upto_region 5 with fail
      clear e0 e1 e2 e3 e4 hb
      generalize wr.alloc (.cells #[.bool p.lex, .string p.sort, .string p.cons, .bool p.bracket, .slice ap p.syms.length cp] 38) = w3 at hkx h3 ⊢
      obtain ⟨kx, hkxe⟩ : ∃ kx, wr.heap.size = kx := ⟨_, rfl⟩
      rw [hkxe] at hkx hbs ⊢
      clear hkxe
      have hlk : ∀ n, (Instr.lookup 85 (.map (some m)) (.string p.sort) false).run Try.prog (w3.drewN n) = .ok (.int .i64 n0) (w3.drewN n) := fun n => by
        have := (show MapF (w3.drewN n) m k (lexOf (d.prods.take k)) from h3.mp).look p.sort HSH.out
        rw [HN0.out] at this
        exact this
      have b8 := h3.bk.cell 8
      have bl := h3.bk.lt
      have x1 := hkx.cell 1
      have xl := hkx.lt
      have H3 := hide h3
      have HKX := hide hkx
      clear h3 hkx
      go_quiet (fail)
      clear hlk b8 x1 bl xl
      have h4 := H3.out.keep (show Below w3.heap.size w3 (w3.drewN nq) from ⟨rfl, rfl, rfl, Nat.le_refl _, fun _ _ => rfl⟩)
      have hx4 : Blk (w3.drewN nq) kx #[.bool p.lex, .string p.sort, .string p.cons, .bool p.bracket, .slice ap p.syms.length cp] 38 := HKX.out
      clear H3 HKX
      generalize w3.drewN nq = w4 at h4 hx4 ⊢
      have H3 := hide h4
      have HKX := hide hx4
      clear h4 hx4 w3
      go_upto_if 24 with fail
      go_cut [] from 25 to 35 (fun wc => ∃ v', Hid (OpT w1 d (some ⟨b, o, none⟩) c2 a3 c3 a4 c4 a5 c5 a6 c6 bb m k v' kx #[.bool p.lex, .string p.sort, .string p.cons, .bool p.bracket, .slice ap p.syms.length cp] wc))
      case first =>
        rcases HLC.out with ⟨rfl, hnm⟩ | ⟨hmem, hn⟩
        · have b7 := H3.out.bk.cell 7
          have bl := H3.out.bk.lt
          have bf := H3.out.bk.free 7
          have x1 := HKX.out.cell 1
          have xl := HKX.out.lt
          have HNM := hide hnm
          have hsl := HSL.out
          rw [List.length_take] at hsl
          have hsl2 : (sortsL (d.prods.take k)).length ≤ 100000 := by omega
          have hw3s : w1.heap.size ≤ w4.heap.size := H3.out.b.size
          clear hnm hsl
          go_upto_region 6 with fail
          have HST := hide (show ∀ v' w5, w5.ownsRow w1.heap.size 9 1 v' ((sortsL (d.prods.take k)).length + 1) (strsC (sortsL (d.prods.take k)) ++ [.string p.sort]) → (w4.drew.alloc (.cells #[.string p.sort] 9)).grownBy w5 v.ownBlock →
              Blk w5 bb #[.string d.start, .string d.layout, .slice (some ⟨b, o, none⟩) d.prods.length c2, .slice a3 d.chains.length c3, .slice a4 d.follows.length c4, .slice a5 d.rejects.length c5, .slice a6 d.boxes.length c6, v, .map (some m)] 87 ∧ Below w1.heap.size w1 w5 ∧ OwnS w1.heap.size v' (sortsL (d.prods.take (k + 1))) w5 ∧ MapF w5 m k (lexOf (d.prods.take k)) ∧ Blk w5 kx #[.bool p.lex, .string p.sort, .string p.cons, .bool p.bracket, .slice ap p.syms.length cp] 38 from fun v' w5 ho hg => by
            have hb4 : Below w4.heap.size w4 (w4.drew.alloc (.cells #[.string p.sort] 9)) := (Below.refl w4.heap.size w4).drew.alloc (by simp) _
            have hne : some bb ≠ v.ownBlock := H3.out.bk.own_ne H3.out.ow.1 (by decide)
            have hne2 : some kx ≠ v.ownBlock := HKX.out.own_ne H3.out.ow.1 (by decide)
            have hne3 : some m ≠ v.ownBlock := H3.out.mp.ne_own H3.out.ow.1
            refine ⟨(H3.out.bk.below hb4).grown hg hne, ?_, ?_, (H3.out.mp.below hb4).grown hg hne3, (HKX.out.below hb4).grown hg hne2⟩
            · exact (below_next H3.out.b hb4).grown hg (by have := H3.out.b.size; simp; omega) (own_block_ge H3.out.ow.1)
            · rw [HSS.out]
              unfold addS
              rw [if_neg (fun h => HNM.out ((inB_iff _ _).1 h))]
              exact OwnS.push H3.out.ow.2 HSH.out ho rfl)
          go_region_law (refine step_append_own rfl (.tmp 29) (.tmp 32) 56 rfl w1.heap.size 9 i0 _ 1 16 Try.underlying56 hi hz0 hz1 hz2 rfl (by decide) v (sortsL (d.prods.take k)).length (strsC (sortsL (d.prods.take k))) (by simp [Act.eval, Act.put]) (own_below H3.out.ow.1 ((Below.refl w4.heap.size w4).drew.alloc (by simp) _)) ⟨w4.heap.size, 0, none⟩ 1 1 [.string p.sort] (by simp [Act.eval, Act.put]) rfl (cells_new _ [.string p.sort] 9) (by simp [Value.oneCell']) (by unfold maxLen; omega) (by omega) (by simp; omega) ?_; intro v' w5 hown' hgrow hnil hat; obtain ⟨g', cap', rfl⟩ := ownsRow_succ hown'; obtain ⟨hb4, hw4, ho4, hm4, hx4⟩ := HST.out _ _ hown' hgrow; have HB4 := hide hb4; have HW4 := hide hw4; have HO4 := hide ho4; have HM4 := hide hm4; have HX4 := hide hx4; have r7 := hb4.cell 7; have rl := hb4.lt; have q7 := hb4.free 7; clear hown' hgrow hnil hat hb4 hw4 ho4 hm4 hx4)
          all_goals
            go_wp2_with fail
            go_meet
            refine ⟨.slice (some ⟨g', 0, none⟩) ((sortsL (d.prods.take k)).length + 1) cap', hide ?_⟩
            first
            | exact ⟨HW4.out.setCell (p := ⟨bb, 7, none⟩) H3.out.nb _, HB4.out.set 7 _, ⟨own_set HO4.out.1 HB4.out (by decide), HO4.out.2⟩, HM4.out.set HB4.out _, HX4.out.other (HX4.out.ne HB4.out (by decide)), H3.out.nb, H3.out.nm⟩
            | exact ⟨(HW4.out.setCell (p := ⟨bb, 7, none⟩) H3.out.nb _).drew, blk_drew (HB4.out.set 7 _), ⟨own_below (own_set HO4.out.1 HB4.out (by decide)) (Below.refl _ _).drew, HO4.out.2⟩, (HM4.out.set HB4.out _).drew, blk_drew (HX4.out.other (HX4.out.ne HB4.out (by decide))), H3.out.nb, H3.out.nm⟩
        · have hnz : (n0 == 0) = false := by rcases hn with rfl | rfl | rfl <;> rfl
          go_wp2_with fail
          go_meet
          refine ⟨v, hide ⟨H3.out.b, H3.out.bk, ?_, H3.out.mp, HKX.out, H3.out.nb, H3.out.nm⟩⟩
          rw [HSS.out]
          unfold addS
          rw [if_pos ((inB_iff _ _).2 hmem)]
          exact H3.out.ow
      case rest =>
        obtain ⟨v', hc⟩ := hcut
        obtain ⟨lx, hlx⟩ : ∃ lx, p.lex = lx := ⟨_, rfl⟩
        have HLX := hide hlx
        have x0 : wc.cell? ⟨kx, 0, none⟩ = some (.bool lx) := by rw [← hlx]; exact hc.out.x.cell 0
        have x1 := hc.out.x.cell 1
        have xl := hc.out.x.lt
        have b8 := hc.out.bk.cell 8
        have bl := hc.out.bk.lt
        have hlk : ∀ n, (Instr.lookup 85 (.map (some m)) (.string p.sort) false).run Try.prog (wc.drewN n) = .ok (.int .i64 n0) (wc.drewN n) := fun n => by
          have := (show MapF (wc.drewN n) m k (lexOf (d.prods.take k)) from hc.out.mp).look p.sort HSH.out
          rw [HN0.out] at this
          exact this
        have hlk1 : (Instr.lookup 85 (.map (some m)) (.string p.sort) false).run Try.prog wc = .ok (.int .i64 n0) wc := hlk 0
        have hlk2 : (Instr.lookup 85 (.map (some m)) (.string p.sort) false).run Try.prog wc.drew = .ok (.int .i64 n0) wc.drew := hlk 1
        clear hlx hlk
        have hk6 : k < 1000000 := by omega
        have HRD := hide (fun (y : Int) w6 (hm6 : MapF w6 m (k + 1) (upd (lexOf (d.prods.take k)) p.sort y)) (hg : wc.drew.grownBy w6 (some m)) (hy : orB n0 p.lex = y) => (show OpS w1 d (some ⟨b, o, none⟩) c2 a3 c3 a4 c4 a5 c5 a6 c6 bb m (k + 1) v' w6 from by
          have hbm : some bb ≠ some m := fun e => hc.out.mp.ne_blk hc.out.bk (Option.some.inj e).symm
          refine ⟨hc.out.b.drew.grown hg hc.out.b.size (fun g e => by injection e with e; rw [← e]; exact hc.out.nm), (blk_drew hc.out.bk).grown hg hbm, ⟨(own_below hc.out.ow.1 (Below.refl _ _).drew).kept hg (Or.inr (fun e => hc.out.mp.ne_own hc.out.ow.1 e.symm)), hc.out.ow.2⟩, ?_, hlt, hc.out.nb, hc.out.nm⟩
          rw [HLS.out, hy]
          exact hm6))
        have HM := hide hc.out.mp
        have hlc := HLC.out
        clear hc
        rcases hlc with ⟨rfl, _⟩ | ⟨_, rfl | rfl | rfl⟩
        · cases lx
          · go_upto_region 9 with fail
            go_still_tail 8, (by kernel_rfl)
            change wpList _ _ _ _ _ wc.drew
            go_wp2_with (at_mapUpdate; refine wpList_update rfl _ _ _ rfl m k (lexOf (d.prods.take k)) rfl HM.out.drew hk6 p.sort HSH.out 2 (by decide) (by unfold i64; omega) rfl rfl ?_; intro w6 hm6 hg6)
            go_roundg (d.prods.length - (k + 1))
            case measure => rw [hu.out]; omega
            case rel => exact ⟨k + 1, v', hide rfl, by go_num, hide (HRD.out _ _ hm6 hg6 (by rw [HLX.out]; rfl))⟩
          · go_upto_region 8 with fail
            go_still_tail 8, (by kernel_rfl)
            change wpList _ _ _ _ _ wc.drew
            go_wp2_with (at_mapUpdate; refine wpList_update rfl _ _ _ rfl m k (lexOf (d.prods.take k)) rfl HM.out.drew hk6 p.sort HSH.out 1 (by decide) (by unfold i64; omega) rfl rfl ?_; intro w6 hm6 hg6)
            go_roundg (d.prods.length - (k + 1))
            case measure => rw [hu.out]; omega
            case rel => exact ⟨k + 1, v', hide rfl, by go_num, hide (HRD.out _ _ hm6 hg6 (by rw [HLX.out]; rfl))⟩
        · cases lx
          · go_upto_region 9 with fail
            go_still_tail 8, (by kernel_rfl)
            change wpList _ _ _ _ _ wc.drew
            go_wp2_with (at_mapUpdate; refine wpList_update rfl _ _ _ rfl m k (lexOf (d.prods.take k)) rfl HM.out.drew hk6 p.sort HSH.out 3 (by decide) (by unfold i64; omega) rfl rfl ?_; intro w6 hm6 hg6)
            go_roundg (d.prods.length - (k + 1))
            case measure => rw [hu.out]; omega
            case rel => exact ⟨k + 1, v', hide rfl, by go_num, hide (HRD.out _ _ hm6 hg6 (by rw [HLX.out]; rfl))⟩
          · go_upto_region 8 with fail
            go_still_tail 8, (by kernel_rfl)
            change wpList _ _ _ _ _ wc.drew
            go_wp2_with (at_mapUpdate; refine wpList_update rfl _ _ _ rfl m k (lexOf (d.prods.take k)) rfl HM.out.drew hk6 p.sort HSH.out 1 (by decide) (by unfold i64; omega) rfl rfl ?_; intro w6 hm6 hg6)
            go_roundg (d.prods.length - (k + 1))
            case measure => rw [hu.out]; omega
            case rel => exact ⟨k + 1, v', hide rfl, by go_num, hide (HRD.out _ _ hm6 hg6 (by rw [HLX.out]; rfl))⟩
        · cases lx
          · go_upto_region 9 with fail
            go_still_tail 8, (by kernel_rfl)
            change wpList _ _ _ _ _ wc.drew
            go_wp2_with (at_mapUpdate; refine wpList_update rfl _ _ _ rfl m k (lexOf (d.prods.take k)) rfl HM.out.drew hk6 p.sort HSH.out 2 (by decide) (by unfold i64; omega) rfl rfl ?_; intro w6 hm6 hg6)
            go_roundg (d.prods.length - (k + 1))
            case measure => rw [hu.out]; omega
            case rel => exact ⟨k + 1, v', hide rfl, by go_num, hide (HRD.out _ _ hm6 hg6 (by rw [HLX.out]; rfl))⟩
          · go_upto_region 8 with fail
            go_still_tail 8, (by kernel_rfl)
            change wpList _ _ _ _ _ wc.drew
            go_wp2_with (at_mapUpdate; refine wpList_update rfl _ _ _ rfl m k (lexOf (d.prods.take k)) rfl HM.out.drew hk6 p.sort HSH.out 3 (by decide) (by unfold i64; omega) rfl rfl ?_; intro w6 hm6 hg6)
            go_roundg (d.prods.length - (k + 1))
            case measure => rw [hu.out]; omega
            case rel => exact ⟨k + 1, v', hide rfl, by go_num, hide (HRD.out _ _ hm6 hg6 (by rw [HLX.out]; rfl))⟩
        · cases lx
          · go_upto_region 9 with fail
            go_still_tail 8, (by kernel_rfl)
            change wpList _ _ _ _ _ wc.drew
            go_wp2_with (at_mapUpdate; refine wpList_update rfl _ _ _ rfl m k (lexOf (d.prods.take k)) rfl HM.out.drew hk6 p.sort HSH.out 3 (by decide) (by unfold i64; omega) rfl rfl ?_; intro w6 hm6 hg6)
            go_roundg (d.prods.length - (k + 1))
            case measure => rw [hu.out]; omega
            case rel => exact ⟨k + 1, v', hide rfl, by go_num, hide (HRD.out _ _ hm6 hg6 (by rw [HLX.out]; rfl))⟩
          · go_upto_region 8 with fail
            go_still_tail 8, (by kernel_rfl)
            change wpList _ _ _ _ _ wc.drew
            go_wp2_with (at_mapUpdate; refine wpList_update rfl _ _ _ rfl m k (lexOf (d.prods.take k)) rfl HM.out.drew hk6 p.sort HSH.out 3 (by decide) (by unfold i64; omega) rfl rfl ?_; intro w6 hm6 hg6)
            go_roundg (d.prods.length - (k + 1))
            case measure => rw [hu.out]; omega
            case rel => exact ⟨k + 1, v', hide rfl, by go_num, hide (HRD.out _ _ hm6 hg6 (by rw [HLX.out]; rfl))⟩
    · have hlti : ¬ (k : Int) < (d.prods.length : Int) := by omega
      have hke : d.prods.take k = d.prods := List.take_of_length_le (by omega)
      have hh2 := hh.out
      have hbb := HWS.out
      go_wp2_with fail
      go_ret
      refine ⟨bb, m, v, rfl, hide ⟨hh2.bk, ?_, ?_, Nat.le_trans HB0.out.size hh2.nb, Nat.le_trans HB0.out.size hh2.nm, below_next HB0.out hh2.b⟩⟩
      · have := hh2.ow
        rw [hke] at this
        exact this.base HB0.out.size
      · have := hh2.mp
        rw [hke] at this
        exact this.mono hh2.le
end Go.Proofs.Ytalicfpcmcbdbaa

set_option linter.unusedVariables false
set_option linter.unusedSimpArgs false
set_option linter.unnecessarySimpa false
set_option linter.deprecated false
namespace Go.Proofs.Ytalicfpcmcbdbaa
open Go.RowKit

/-- The book in memory. -/
structure Book (d : Df) (a2 : Option Addr) (c2 : Nat) (a3 : Option Addr) (c3 : Nat) (a4 : Option Addr) (c4 : Nat) (a5 : Option Addr) (c5 : Nat) (a6 : Option Addr) (c6 : Nat) (as_ : Option Addr) (cs m n : Nat) (bb : Nat) (W : World) : Prop where
  bk : Blk W bb #[.string d.start, .string d.layout, .slice a2 d.prods.length c2, .slice a3 d.chains.length c3, .slice a4 d.follows.length c4, .slice a5 d.rejects.length c5, .slice a6 d.boxes.length c6, .slice as_ (sortsL d.prods).length cs, .map (some m)] 87
  rd : RD d ⟨a2, c2, a3, c3, a4, c4, a5, c5, a6, c6⟩ W
  so : Row StrAt 1 (sortsL d.prods) as_ W
  mp : MapF W m n (lexOf d.prods)
theorem Book.below {d : Df} {a2 : Option Addr} {c2 : Nat} {a3 : Option Addr} {c3 : Nat} {a4 : Option Addr} {c4 : Nat} {a5 : Option Addr} {c5 : Nat} {a6 : Option Addr} {c6 : Nat} {as_ : Option Addr} {cs m n : Nat} {bb : Nat} {W W' : World} (h : Book d a2 c2 a3 c3 a4 c4 a5 c5 a6 c6 as_ cs m n bb W) (hb : Below W.heap.size W W') : Book d a2 c2 a3 c3 a4 c4 a5 c5 a6 c6 as_ cs m n bb W' :=
  ⟨h.bk.below hb, h.rd.below hb, h.so.below StrAt.stable hb, h.mp.below hb⟩
theorem open_any (d : Df) (a2 : Option Addr) (c2 : Nat) (a3 : Option Addr) (c3 : Nat) (a4 : Option Addr) (c4 : Nat) (a5 : Option Addr) (c5 : Nat) (a6 : Option Addr) (c6 : Nat) (w : World) (hd : RD d ⟨a2, c2, a3, c3, a4, c4, a5, c5, a6, c6⟩ w) (hln : d.prods.length ≤ 100000) :
    Calls Try.prog 34 #[.agg #[.string d.start, .string d.layout, .slice a2 d.prods.length c2, .slice a3 d.chains.length c3, .slice a4 d.follows.length c4, .slice a5 d.rejects.length c5, .slice a6 d.boxes.length c6]] w fun e w' => ∃ bb as_ cs m n, e = .returned (.pointer (some ⟨bb, 0, none⟩)) ∧ Hid (Book d a2 c2 a3 c3 a4 c4 a5 c5 a6 c6 as_ cs m n bb w' ∧ OwnS w.heap.size (.slice as_ (sortsL d.prods).length cs) (sortsL d.prods) w' ∧ w.heap.size ≤ bb ∧ Below w.heap.size w w') := by
  refine (open_at d a2 c2 a3 c3 a4 c4 a5 c5 a6 c6 w hd.p hln).mono ?_
  rintro e w' ⟨bb, m, v, he, hh⟩
  obtain ⟨h1, h2, h3, h4, h5, h6⟩ := hh.out
  have hl := sortsL_len d.prods
  obtain ⟨as_, cs, rfl, hr⟩ := h2.row (by omega)
  exact ⟨bb, as_, cs, m, _, he, hide ⟨⟨h1, hd.below h6, hr, h3⟩, h2, h4, h6⟩⟩
set_option maxHeartbeats 4000000 in
set_option maxRecDepth 100000 in
theorem lexical_any (d : Df) (a2 : Option Addr) (c2 : Nat) (a3 : Option Addr) (c3 : Nat) (a4 : Option Addr) (c4 : Nat) (a5 : Option Addr) (c5 : Nat) (a6 : Option Addr) (c6 : Nat) (as_ : Option Addr) (cs m n : Nat) (bb : Nat) (s : ByteArray) (w : World) (h : Book d a2 c2 a3 c3 a4 c4 a5 c5 a6 c6 as_ cs m n bb w) (hs : short s) : Calls Try.prog 63 #[.pointer (some ⟨bb, 0, none⟩), .string s] w fun e w' => e = .returned (.bool (isLex d.prods s true)) ∧ w = w' := by
  have b8 := h.bk.cell 8
  have bl := h.bk.lt
  obtain ⟨n0, hn0⟩ : ∃ n0, lexOf d.prods s = n0 := ⟨_, rfl⟩
  have hlk := h.mp.look s hs
  rw [hn0] at hlk
  have hc : (n0 = 0 ∧ isLex d.prods s true = false) ∨ (n0 = 1 ∧ isLex d.prods s true = true) ∨ (n0 = 2 ∧ isLex d.prods s true = false) ∨ (n0 = 3 ∧ isLex d.prods s true = true) := by
    rw [← hn0]
    unfold lexOf
    cases isLex d.prods s true <;> cases isLex d.prods s false <;> simp
  clear h hs hn0
  rcases hc with ⟨rfl, hl⟩ | ⟨rfl, hl⟩ | ⟨rfl, hl⟩ | ⟨rfl, hl⟩
  all_goals
    have HL := hide hl
    clear hl
    go_enter Try.func63, Try.ntmps63
    go_wp2_with fail
    go_ret
    exact ⟨by rw [HL.out]; rfl, rfl⟩
end Go.Proofs.Ytalicfpcmcbdbaa
