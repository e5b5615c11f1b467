/- The reference: what is reached. The reference: far, bare. -/
import Derived.Test.YtalicfpcmcbdbaaZRefL
import Derived.Test.YtalicfpcmcbdbaaZLFar
import Derived.Test.YtalicfpcmcbdbaaZRcWalk
import Derived.Test.YtalicfpcmcbdbaaZCkF
set_option linter.unusedVariables false
set_option linter.unusedSimpArgs false
set_option linter.unnecessarySimpa false
set_option linter.deprecated false
namespace Go.Proofs.Ytalicfpcmcbdbaa
open Go.RowKit

/-- The first place at which far looks: -1 is the name itself. -/
def atZ : Nat → Int
  | 0 => -1
  | k + 1 => (k : Int)
theorem atZ_lt (a n : Nat) : atZ a < (n : Int) ↔ a < n + 1 := by cases a <;> simp [atZ] <;> omega
theorem atZ_bd (a : Nat) : -1 ≤ atZ a ∧ atZ a + 1 = (a : Int) := by cases a <;> simp [atZ] <;> omega
theorem RcO.popF {ps : List Pd} {stp : Pd → List ByteArray} {from_ at_ : ByteArray} {met todo : List ByteArray} (h : RcO ps stp from_ met (at_ :: todo)) : RcI ps stp from_ at_ met todo :=
  ⟨h.a, fun t ht => h.b t (List.mem_cons_of_mem _ ht), fun x hx => by
    rcases h.c x hx with e | e
    · rcases List.mem_cons.1 e with e | e
      · exact Or.inr (Or.inl e)
      · exact Or.inl e
    · exact Or.inr (Or.inr e), h.b at_ (List.mem_cons_self ..)⟩
/-- What is under way in far. -/
structure FarI (ps : List Pd) (stp : Pd → List ByteArray) (from_ at_ : ByteArray) (a1 : Nat) (B M0 : Nat) (w1 : World) (out : List ByteArray) (v : Value) (W : World) : Prop where
  b : Below w1.heap.size w1 W
  o : OwnS B v out W
  i : RcI ps stp from_ at_ out ((from_ :: out).drop (a1 + 1))
  n : out.length + unm (ps.flatMap stp) out ≤ 99999
  a : a1 ≤ out.length
  m : 2 * unm (ps.flatMap stp) out + (out.length + 1 - a1) ≤ M0
theorem FarI.below {ps : List Pd} {stp : Pd → List ByteArray} {from_ at_ : ByteArray} {a1 B M0 : Nat} {w1 : World} {out : List ByteArray} {v : Value} {W W' : World} (h : FarI ps stp from_ at_ a1 B M0 w1 out v W) (hb : Below W.heap.size W W') : FarI ps stp from_ at_ a1 B M0 w1 out v W' :=
  ⟨below_next h.b hb, h.o.below hb, h.i, h.n, h.a, h.m⟩
theorem FarI.add {ps : List Pd} {stp : Pd → List ByteArray} {from_ at_ : ByteArray} {a1 B M0 : Nat} {w1 : World} {out : List ByteArray} {v v' : Value} {W W' : World} {n : ByteArray} {m : Nat} (h : FarI ps stp from_ at_ a1 B M0 w1 out v W) (hB : w1.heap.size ≤ B) (hs : short n)
    (hr : Reach ps stp from_ n) (hn : n ∈ ps.flatMap stp) (hi : inB n out = false) (ho : W'.ownsRow B 9 1 v' m (strsC out ++ [.string n])) (hm : m = out.length + 1) (hg : (W.alloc (.cells #[.string n] 9)).grownBy W' v.ownBlock) : FarI ps stp from_ at_ a1 B M0 w1 (out ++ [n]) v' W' := by
  have hu := unm_add (ps.flatMap stp) out n hn hi
  have hb2 := h.b.alloc h.b.size (.cells #[.string n] 9)
  refine ⟨hb2.grown hg hb2.size (fun g hgg => Nat.le_trans hB (own_block_ge h.o.1 g hgg)), OwnS.push h.o.2 hs ho hm, ?_, ?_, ?_, ?_⟩
  · have := h.i.add (n := n) hr
    rw [show (from_ :: (out ++ [n])).drop (a1 + 1) = (from_ :: out).drop (a1 + 1) ++ [n] by
      rw [← List.cons_append, List.drop_append_of_le_length (by have := h.a; simp; omega)]]
    exact this
  · have := h.n; rw [List.length_append]; simp; omega
  · have := h.a; rw [List.length_append]; omega
  · have := h.m; have := h.a; rw [List.length_append]; simp; omega
set_option maxHeartbeats 1600000 in
set_option maxRecDepth 100000 in
theorem farN_any (d : Df) (a2 : Option Addr) (c2 : Nat) (a3 : Option Addr) (c3 : Nat) (a4 : Option Addr) (c4 : Nat) (a5 : Option Addr) (c5 : Nat) (a6 : Option Addr) (c6 : Nat) (s : ByteArray) (w : World) (hd : RD d ⟨a2, c2, a3, c3, a4, c4, a5, c5, a6, c6⟩ w) (hs : short s) (hall : (d.prods.flatMap namesL).length ≤ 99999) : Calls Try.prog 66 #[.agg #[.string d.start, .string d.layout, .slice a2 d.prods.length c2, .slice a3 d.chains.length c3, .slice a4 d.follows.length c4, .slice a5 d.rejects.length c5, .slice a6 d.boxes.length c6], .string s, .bool false] w fun e w' => ∃ v met, e = .returned v ∧ OwnS w.heap.size v met w' ∧ (∀ t, t ∈ met ↔ Reach d.prods namesL s t) ∧ met.length ≤ 99999 ∧ Below w.heap.size w w' := by
  obtain ⟨i0, hi, hz0, hz1, hz2⟩ := info_parts info9
  have HALL := hide hall
  have HSS := hide hs
  clear hall hs
  have HB0 := hide ((Below.refl w.heap.size w).alloc (Nat.le_refl _) (.cells #[.string d.start, .string d.layout, .slice a2 d.prods.length c2, .slice a3 d.chains.length c3, .slice a4 d.follows.length c4, .slice a5 d.rejects.length c5, .slice a6 d.boxes.length c6] 28))
  have HX0 := hide (Blk.new w #[.string d.start, .string d.layout, .slice a2 d.prods.length c2, .slice a3 d.chains.length c3, .slice a4 d.follows.length c4, .slice a5 d.rejects.length c5, .slice a6 d.boxes.length c6] 28)
  have HD := hide (hd.below HB0.out)
  have hl2 := hd.p.1
  clear hd
  go_enter Try.func66, Try.ntmps66
  go_upto_region 2 with fail
  obtain ⟨kx, hkx⟩ : ∃ kx, w.heap.size = kx := ⟨_, rfl⟩
  obtain ⟨w1, h1⟩ : ∃ w1, w.alloc (.cells #[.string d.start, .string d.layout, .slice a2 d.prods.length c2, .slice a3 d.chains.length c3, .slice a4 d.follows.length c4, .slice a5 d.rejects.length c5, .slice a6 d.boxes.length c6] 28) = w1 := ⟨_, rfl⟩
  rw [h1] at HD HB0 HX0 ⊢
  rw [hkx] at HX0 ⊢
  clear h1 hkx
  go_wp2_with fail
  go_loopg [7, 8] (2 * unm (d.prods.flatMap namesL) [] + 1) (fun u v7 v8 wr => ∃ a1 out, Hid (u = 2 * unm (d.prods.flatMap namesL) out + (out.length + 1 - a1)) ∧ v8 = .int .i64 (atZ a1) ∧ Hid (Below w1.heap.size w1 wr ∧ OwnS w1.heap.size v7 out wr ∧ RcO d.prods namesL s out ((s :: out).drop a1) ∧ out.length + unm (d.prods.flatMap namesL) out ≤ 99999 ∧ a1 ≤ out.length + 1))
  case atStart => exact ⟨0, [], hide rfl, rfl, hide ⟨Below.refl _ _, OwnS.nil _ _, RcO.start _ _ _, by have := List.length_filter_le (fun n => !inB n []) (d.prods.flatMap namesL); have := HALL.out; unfold unm; simp only [List.length_nil]; omega, by simp⟩⟩
  case round =>
    obtain ⟨a1, out, hu, rfl, hh⟩ := hrel
    have hle := hh.out.2.2.2.1
    obtain ⟨a7, c7, rfl, hr7⟩ := hh.out.2.1.row (by omega)
    have hz := atZ_bd a1
    by_cases hlt : a1 < out.length + 1
    · have hlti : atZ a1 < (out.length : Int) := (atZ_lt _ _).2 hlt
      have hgl : a1 < (s :: out).length := by simpa using hlt
      obtain ⟨at_, hat⟩ : ∃ x, (s :: out)[a1] = x := ⟨_, rfl⟩
      have HI0 := hide (show RcI d.prods namesL s at_ out ((s :: out).drop (a1 + 1)) by
        have h := hh.out.2.2.1
        rw [List.drop_eq_getElem_cons hgl, hat] at h
        exact h.popF)
      go_upto_if 23 with fail
      go_cut [9] from 24 to 27 (fun v9 wc => v9 = .string at_ ∧ wr = wc)
      case first =>
        cases a1 with
        | zero =>
          have hat0 : s = at_ := by simpa using hat
          subst hat0
          have hzz : atZ 0 = -1 := rfl
          rw [hzz] at *
          go_wp2_with fail
          go_meet
          exact ⟨rfl, rfl⟩
        | succ a =>
          have hal : a < out.length := by omega
          have hat0 : out[a] = at_ := by simpa using hat
          have hzz : atZ (a + 1) = (a : Int) := rfl
          rw [hzz] at *
          have hali : (a : Int) < (out.length : Int) := by omega
          obtain ⟨b, o, rfl, hb, hatt⟩ := hr7.get hal
          have hx := hatt a hal
          rw [Nat.mul_one, hat0] at hx
          have f0 := hx.2
          have hge : (0 : Int) ≤ (a : Int) := by omega
          clear hatt hx
          go_wp2_with fail
          go_meet
          exact ⟨rfl, rfl⟩
      case rest =>
        obtain ⟨rfl, rfl⟩ := hcut
        have HF0 := hide (show FarI d.prods namesL s at_ a1 w1.heap.size (2 * unm (d.prods.flatMap namesL) out + (out.length + 1 - a1)) w1 out (.slice a7 out.length c7) wr from ⟨hh.out.1, hh.out.2.1, HI0.out, hh.out.2.2.2.1, by omega, Nat.le_refl _⟩)
        obtain ⟨wo, hwo⟩ : ∃ wo : World, wo = wr := ⟨_, rfl⟩
        rw [← hwo] at HF0 ⊢
        obtain ⟨M0, hM0⟩ : ∃ M0, 2 * unm (d.prods.flatMap namesL) out + (out.length + 1 - a1) = M0 := ⟨_, rfl⟩
        have HM0 := hide hM0
        rw [hM0] at HF0
        have hu2 := hu.out
        rw [hM0] at hu2
        have HU := hide hu2
        clear hwo hh hr7 hM0 hu hu2 hat HI0
        generalize (.slice a7 out.length c7 : Value) = v7 at HF0 ⊢
        go_wp2_with fail
        go_loopg [7, 10] d.prods.length (fun u v7 v10 wr => ∃ k out, Hid (u = d.prods.length - k) ∧ v10 = .int .i64 (k : Int) ∧ Hid (k ≤ d.prods.length ∧ FarI d.prods namesL s at_ a1 w1.heap.size M0 w1 out v7 wr ∧ ∀ i (h : i < d.prods.length), i < k → (d.prods[i]).sort = at_ → ∀ n ∈ namesL d.prods[i], n ∈ out))
        case atStart => exact ⟨0, out, hide rfl, rfl, hide ⟨Nat.zero_le _, HF0.out, fun i _ h => by omega⟩⟩
        case round =>
          obtain ⟨k, out, hu, rfl, hh⟩ := hrel
          have hkl := hh.out.1
          have x2 := (HX0.out.below hh.out.2.1.b).cell 2
          have xl := (HX0.out.below hh.out.2.1.b).lt
          by_cases hltk : k < d.prods.length
          · have hltki : (k : Int) < (d.prods.length : Int) := by omega
            obtain ⟨b, o, rfl, hb, hatp⟩ := HD.out.p.get hltk
            have hx := hatp k hltk
            have HPM := hide (List.getElem_mem hltk)
            have HNX := hide (fun (out' : List ByteArray) (hm : ∀ x ∈ out, x ∈ out') (hq : (d.prods[k]).sort = at_ → ∀ n ∈ namesL d.prods[k], n ∈ out') => (show ∀ i (h : i < d.prods.length), i < k + 1 → (d.prods[i]).sort = at_ → ∀ n ∈ namesL d.prods[i], n ∈ out' from fun i h hi he n hn => by
              by_cases e : i = k
              · subst e; exact hq he n hn
              · exact hm n (hh.out.2.2 i h (by omega) he n hn)))
            generalize d.prods[k] = p at hx HPM HNX
            clear hatp
            obtain ⟨ap, cp, ⟨e0, e1, e2, e3, e4⟩, hrow⟩ := hx.cells
            have HROW1 := hide hrow
            have hsl := hrow.1
            have hbw := hh.out.2.1.b
            replace e0 := (hbw.cell (p := ⟨b, o + k * 5, none⟩) hb).trans e0
            replace e1 := (hbw.cell (p := ⟨b, o + k * 5 + 1, none⟩) hb).trans e1
            replace e2 := (hbw.cell (p := ⟨b, o + k * 5 + 2, none⟩) hb).trans e2
            replace e3 := (hbw.cell (p := ⟨b, o + k * 5 + 3, none⟩) hb).trans e3
            replace e4 := (hbw.cell (p := ⟨b, o + k * 5 + 4, none⟩) hb).trans e4
            replace hb := Nat.lt_of_lt_of_le hb hbw.size
            clear hbw
            have HBX := hide (NB.alloc (Below.refl wr.heap.size wr) (.cells #[.bool p.lex, .string p.sort, .string p.cons, .bool p.bracket, .slice ap p.syms.length cp] 38))
            have HF := hide (hh.out.2.1.below HBX.out)
            have HY := hide (Blk.new wr #[.bool p.lex, .string p.sort, .string p.cons, .bool p.bracket, .slice ap p.syms.length cp] 38)
            clear hx hrow hh
            go_upto_region 12 with fail
            obtain ⟨ky, hky⟩ : ∃ ky, wr.heap.size = ky := ⟨_, rfl⟩
            rw [hky] at HY ⊢
            clear hky e0 e1 e2 e3 e4 x2 xl hb HBX
            generalize wr.alloc (.cells #[.bool p.lex, .string p.sort, .string p.cons, .bool p.bracket, .slice ap p.syms.length cp] 38) = w6 at HF HY ⊢
            have y0 := HY.out.cell 0
            have y1 := HY.out.cell 1
            have y2 := HY.out.cell 2
            have y3 := HY.out.cell 3
            have y4 := HY.out.cell 4
            have yl := HY.out.lt
            by_cases hso : p.sort = at_
            · have h2 : p.sort.toList = at_.toList := by rw [hso]
              have h1 : (p.sort.toList == at_.toList) = true := by rw [hso]; simp
              have h1n : (!p.sort.toList == at_.toList) = false := by rw [h1]; rfl
              have HSO := hide hso
              clear hso
              go_wp2_with fail
              go_loopg [7, 13] p.syms.length (fun u v7 v13 wq => ∃ j out', Hid (u = p.syms.length - j) ∧ v13 = .int .i64 (j : Int) ∧ Hid (j ≤ p.syms.length ∧ Blk wq ky #[.bool p.lex, .string p.sort, .string p.cons, .bool p.bracket, .slice ap p.syms.length cp] 38 ∧ FarI d.prods namesL s at_ a1 w1.heap.size M0 w1 out' v7 wq ∧ (∀ x ∈ out, x ∈ out') ∧ ∀ i (h : i < p.syms.length), i < j → emp (p.syms[i]).name = false → (p.syms[i]).name ∈ out'))
              case atStart => exact ⟨0, out, hide rfl, rfl, hide ⟨Nat.zero_le _, HY.out, HF.out, fun _ h => h, fun i _ h => by omega⟩⟩
              case round =>
                obtain ⟨j, out', hv, rfl, hq⟩ := hrel
                have hjl := hq.out.1
                have y4 := hq.out.2.1.cell 4
                have yl := hq.out.2.1.lt
                by_cases hltj : j < p.syms.length
                · have hltji : (j : Int) < (p.syms.length : Int) := by omega
                  obtain ⟨b2, o2, rfl, hb2, hat2⟩ := (HROW1.out.below SyAt.stable hq.out.2.2.1.b).get hltj
                  have hx2 := hat2 j hltj
                  have HNM := hide (fun (he : emp p.syms[j].name = false) => namesL_mem hltj he)
                  have HEE := hide (fun (out2 : List ByteArray) (hm : ∀ x ∈ out', x ∈ out2) (hq2 : emp p.syms[j].name = false → p.syms[j].name ∈ out2) => (show ∀ i (h : i < p.syms.length), i < j + 1 → emp (p.syms[i]).name = false → (p.syms[i]).name ∈ out2 from fun i h hlt he => by
                    by_cases e : i = j
                    · subst e; exact hq2 he
                    · exact hm _ (hq.out.2.2.2.2 i h (by omega) he)))
                  generalize p.syms[j] = y at hx2 HNM HEE
                  clear hat2
                  obtain ⟨kd, t, st, nm, sp⟩ := y
                  obtain ⟨f0, f1, f2, f3, f4, f5, f6, f7⟩ := hx2.cells
                  have HSN := hide (show short nm from hx2.1.n)
                  clear hx2 f0 f1 f2 f3 f4 f5 f7
                  have HQ := hide hq.out
                  have hlo := hq.out.2.2.1.n
                  clear hq
                  rcases emp_or nm with ⟨bn, zn, yn, vn, xn⟩ | ⟨bn, zn, yn, vn, xn⟩
                  · have hne : (nm.toList == []) = true := by rw [xn]; rfl
                    have hne2 : (!nm.toList == []) = false := by rw [hne]; rfl
                    go_wp2_with fail
                    go_roundg (p.syms.length - (j + 1))
                    case measure => rw [hv.out]; omega
                    case rel => exact ⟨j + 1, out', hide rfl, by go_num, hide ⟨hltj, HQ.out.2.1, HQ.out.2.2.1, HQ.out.2.2.2.1, HEE.out out' (fun _ h => h) (fun h => by rw [zn.out] at h; cases h)⟩⟩
                  have hne : (nm.toList == []) = false := beq_eq_false_iff_ne.2 xn
                  have hne2 : (!nm.toList == []) = true := by rw [hne]; rfl
                  obtain ⟨a9, c9, ev7, hr9⟩ := HQ.out.2.2.1.o.row (by omega)
                  subst ev7
                  have HIN := hide (rIn_any out' nm a9 c9 wr hr9)
                  clear hr9
                  cases hin : inB nm out' with
                  | true =>
                    rw [hin] at HIN
                    have HMEM := hide ((inB_iff _ _).1 hin)
                    clear hin
                    go_wp2_with (go_at_call 64; refine HIN.out.mono ?_; rintro e w7 ⟨rfl, rfl⟩)
                    go_roundg (p.syms.length - (j + 1))
                    case measure => rw [hv.out]; omega
                    case rel => exact ⟨j + 1, out', hide rfl, by go_num, hide ⟨hltj, HQ.out.2.1, HQ.out.2.2.1, HQ.out.2.2.2.1, HEE.out out' (fun _ h => h) (fun _ => HMEM.out)⟩⟩
                  | false =>
                    rw [hin] at HIN
                    have HINF := hide hin
                    have HOW := hide HQ.out.2.2.1.o
                    have hbs := HQ.out.2.2.1.b.size
                    clear hin
                    go_wp2_with fail
                    refine HIN.out.mono ?_
                    rintro e w7 ⟨rfl, rfl⟩
                    go_wp2_with (at_builtin; refine wpList_append_own _ rfl _ _ 56 rfl w1.heap.size 9 i0 (.string ⟨#[]⟩) 1 16 Try.underlying56 hi hz0 hz1 hz2 rfl (by decide) _ _ (strsC out') rfl (HOW.out.1.alloc _) ⟨wr.heap.size, 0, none⟩ 1 1 [.string nm] rfl rfl (cells_at _ _ _ _ rfl) (by intro y hy; simp at hy; subst hy; rfl) (by unfold maxLen; omega) (by omega) (by simp; omega) ?_)
                    intro v' w7 hown' hgrow _
                    have HG := hide hgrow
                    have HO := hide hown'
                    clear hgrow hown'
                    have hmemp := HNM.out zn.out
                    have HADD := hide (HQ.out.2.2.1.add (Nat.le_refl _) HSN.out (HQ.out.2.2.1.i.reach HPM.out HSO.out hmemp) (List.mem_flatMap.2 ⟨p, HPM.out, hmemp⟩) HINF.out HO.out rfl HG.out)
                    have HY7 := hide ((HQ.out.2.1.alloc (.cells #[.string nm] 9)).grown HG.out ((HQ.out.2.1.alloc (.cells #[.string nm] 9)).own_ne (HOW.out.1.alloc (.cells #[.string nm] 9)) (by decide)))
                    clear hmemp
                    go_wp2_with fail
                    go_roundg (p.syms.length - (j + 1))
                    case measure => rw [hv.out]; omega
                    case rel => exact ⟨j + 1, out' ++ [nm], hide rfl, by go_num, hide ⟨hltj, HY7.out, HADD.out, fun x hx => List.mem_append_left _ (HQ.out.2.2.2.1 x hx), HEE.out _ (fun x hx => List.mem_append_left _ hx) (fun _ => by simp)⟩⟩
                · have hltji : ¬ (j : Int) < (p.syms.length : Int) := by omega
                  have HQ := hide hq.out
                  clear hq
                  go_wp2_with fail
                  go_roundg (d.prods.length - (k + 1))
                  case measure => rw [hu.out]; omega
                  case rel => exact ⟨k + 1, out', hide rfl, by go_num, hide ⟨hltk, HQ.out.2.2.1, HNX.out out' HQ.out.2.2.2.1 (fun _ n hn => by
                    unfold namesL namesOf at hn
                    obtain ⟨y, hy, rfl⟩ := List.mem_map.1 hn
                    obtain ⟨hy1, hy2⟩ := List.mem_filter.1 hy
                    obtain ⟨i, hi, rfl⟩ := List.mem_iff_getElem.1 hy1
                    exact HQ.out.2.2.2.2 i hi (by omega) (by simpa using hy2))⟩⟩
            · have h2 : ¬ p.sort.toList = at_.toList := fun h => hso ((toList_eq_iff _ _).1 h)
              have h1 : (p.sort.toList == at_.toList) = false := beq_eq_false_iff_ne.2 h2
              have h1n : (!p.sort.toList == at_.toList) = true := by rw [h1]; rfl
              have HSO := hide hso
              clear hso
              go_wp2_with fail
              go_roundg (d.prods.length - (k + 1))
              case measure => rw [hu.out]; omega
              case rel => exact ⟨k + 1, out, hide rfl, by go_num, hide ⟨hltk, HF.out, HNX.out out (fun _ h => h) (fun h => absurd h HSO.out)⟩⟩
          · have hltki : ¬ (k : Int) < (d.prods.length : Int) := by omega
            have HE := hide hh.out
            clear hh
            go_wp2_with fail
            go_roundg (2 * unm (d.prods.flatMap namesL) out + (out.length + 1 - (a1 + 1)))
            case measure => rw [HU.out]; have := HE.out.2.1.m; have := HE.out.2.1.a; omega
            case rel =>
              have hz := atZ_bd a1
              refine ⟨a1 + 1, out, hide rfl, by rw [show atZ (a1 + 1) = (a1 : Int) from rfl, ← hz.2], hide ⟨HE.out.2.1.b, HE.out.2.1.o, HE.out.2.1.i.done (fun p hp hs n hn => ?_), HE.out.2.1.n, by have := HE.out.2.1.a; omega⟩⟩
              obtain ⟨i, hi, rfl⟩ := List.mem_iff_getElem.1 hp
              exact HE.out.2.2 i hi (by omega) hs n hn
    · have hlti : ¬ atZ a1 < (out.length : Int) := fun h => hlt ((atZ_lt _ _).1 h)
      have HO := hide (hh.out.2.1.base HB0.out.size)
      have HOUT := hide (show ∀ t, t ∈ out ↔ Reach d.prods namesL s t by
        have h := hh.out.2.2.1
        rw [List.drop_eq_nil_of_le (by simp; omega)] at h
        exact h.out)
      go_wp2_with fail
      go_ret
      exact ⟨_, rfl, out, HO.out, HOUT.out, by omega, below_next HB0.out hh.out.1⟩
end Go.Proofs.Ytalicfpcmcbdbaa

set_option linter.unusedVariables false
set_option linter.unusedSimpArgs false
set_option linter.unnecessarySimpa false
set_option linter.deprecated false
namespace Go.Proofs.Ytalicfpcmcbdbaa
open Go.RowKit

theorem bareR_mem (p : Pd) (h : emp (bareR p) = false) : ∃ s ∈ p.syms, s.name = bareR p := by
  unfold bareR at h ⊢
  by_cases h1 : (mustOf p.syms).length = 1
  · rw [if_pos h1] at h ⊢
    unfold barN at h ⊢
    cases hg : (mustOf p.syms).getLast? with
    | none => rw [hg] at h; simp only [emp_emptyB] at h; cases h
    | some s =>
      rw [hg] at h
      simp only at h ⊢
      unfold barS at h ⊢
      by_cases hk : s.kind = 3 ∨ s.kind = 6
      · rw [if_pos hk]
        exact ⟨s, (List.mem_filter.1 (List.mem_of_getLast? hg)).1, rfl⟩
      · rw [if_neg hk, emp_emptyB] at h; cases h
  · rw [if_neg h1, emp_emptyB] at h; cases h
set_option maxHeartbeats 1600000 in
set_option maxRecDepth 100000 in
theorem farB_any (d : Df) (a2 : Option Addr) (c2 : Nat) (a3 : Option Addr) (c3 : Nat) (a4 : Option Addr) (c4 : Nat) (a5 : Option Addr) (c5 : Nat) (a6 : Option Addr) (c6 : Nat) (s : ByteArray) (w : World) (hd : RD d ⟨a2, c2, a3, c3, a4, c4, a5, c5, a6, c6⟩ w) (hs : short s) (hall : (d.prods.flatMap bareL).length ≤ 99999) (hsl : ∀ p ∈ d.prods, p.syms.length ≤ 10000) : Calls Try.prog 66 #[.agg #[.string d.start, .string d.layout, .slice a2 d.prods.length c2, .slice a3 d.chains.length c3, .slice a4 d.follows.length c4, .slice a5 d.rejects.length c5, .slice a6 d.boxes.length c6], .string s, .bool true] w fun e w' => ∃ v met, e = .returned v ∧ OwnS w.heap.size v met w' ∧ (∀ t, t ∈ met ↔ Reach d.prods bareL s t) ∧ met.length ≤ 99999 ∧ Below w.heap.size w w' := by
  obtain ⟨i0, hi, hz0, hz1, hz2⟩ := info_parts info9
  have HALL := hide hall
  have HSL := hide hsl
  have HSS := hide hs
  clear hall hs hsl
  have HB0 := hide ((Below.refl w.heap.size w).alloc (Nat.le_refl _) (.cells #[.string d.start, .string d.layout, .slice a2 d.prods.length c2, .slice a3 d.chains.length c3, .slice a4 d.follows.length c4, .slice a5 d.rejects.length c5, .slice a6 d.boxes.length c6] 28))
  have HX0 := hide (Blk.new w #[.string d.start, .string d.layout, .slice a2 d.prods.length c2, .slice a3 d.chains.length c3, .slice a4 d.follows.length c4, .slice a5 d.rejects.length c5, .slice a6 d.boxes.length c6] 28)
  have HD := hide (hd.below HB0.out)
  have hl2 := hd.p.1
  clear hd
  go_enter Try.func66, Try.ntmps66
  go_upto_region 2 with fail
  obtain ⟨kx, hkx⟩ : ∃ kx, w.heap.size = kx := ⟨_, rfl⟩
  obtain ⟨w1, h1⟩ : ∃ w1, w.alloc (.cells #[.string d.start, .string d.layout, .slice a2 d.prods.length c2, .slice a3 d.chains.length c3, .slice a4 d.follows.length c4, .slice a5 d.rejects.length c5, .slice a6 d.boxes.length c6] 28) = w1 := ⟨_, rfl⟩
  rw [h1] at HD HB0 HX0 ⊢
  rw [hkx] at HX0 ⊢
  clear h1 hkx
  go_wp2_with fail
  go_loopg [7, 8] (2 * unm (d.prods.flatMap bareL) [] + 1) (fun u v7 v8 wr => ∃ a1 out, Hid (u = 2 * unm (d.prods.flatMap bareL) out + (out.length + 1 - a1)) ∧ v8 = .int .i64 (atZ a1) ∧ Hid (Below w1.heap.size w1 wr ∧ OwnS w1.heap.size v7 out wr ∧ RcO d.prods bareL s out ((s :: out).drop a1) ∧ out.length + unm (d.prods.flatMap bareL) out ≤ 99999 ∧ a1 ≤ out.length + 1))
  case atStart => exact ⟨0, [], hide rfl, rfl, hide ⟨Below.refl _ _, OwnS.nil _ _, RcO.start _ _ _, by have := List.length_filter_le (fun n => !inB n []) (d.prods.flatMap bareL); have := HALL.out; unfold unm; simp only [List.length_nil]; omega, by simp⟩⟩
  case round =>
    obtain ⟨a1, out, hu, rfl, hh⟩ := hrel
    have hle := hh.out.2.2.2.1
    obtain ⟨a7, c7, rfl, hr7⟩ := hh.out.2.1.row (by omega)
    have hz := atZ_bd a1
    by_cases hlt : a1 < out.length + 1
    · have hlti : atZ a1 < (out.length : Int) := (atZ_lt _ _).2 hlt
      have hgl : a1 < (s :: out).length := by simpa using hlt
      obtain ⟨at_, hat⟩ : ∃ x, (s :: out)[a1] = x := ⟨_, rfl⟩
      have HI0 := hide (show RcI d.prods bareL s at_ out ((s :: out).drop (a1 + 1)) by
        have h := hh.out.2.2.1
        rw [List.drop_eq_getElem_cons hgl, hat] at h
        exact h.popF)
      go_upto_if 23 with fail
      go_cut [9] from 24 to 27 (fun v9 wc => v9 = .string at_ ∧ wr = wc)
      case first =>
        cases a1 with
        | zero =>
          have hat0 : s = at_ := by simpa using hat
          subst hat0
          have hzz : atZ 0 = -1 := rfl
          rw [hzz] at *
          go_wp2_with fail
          go_meet
          exact ⟨rfl, rfl⟩
        | succ a =>
          have hal : a < out.length := by omega
          have hat0 : out[a] = at_ := by simpa using hat
          have hzz : atZ (a + 1) = (a : Int) := rfl
          rw [hzz] at *
          have hali : (a : Int) < (out.length : Int) := by omega
          obtain ⟨b, o, rfl, hb, hatt⟩ := hr7.get hal
          have hx := hatt a hal
          rw [Nat.mul_one, hat0] at hx
          have f0 := hx.2
          have hge : (0 : Int) ≤ (a : Int) := by omega
          clear hatt hx
          go_wp2_with fail
          go_meet
          exact ⟨rfl, rfl⟩
      case rest =>
        obtain ⟨rfl, rfl⟩ := hcut
        have HF0 := hide (show FarI d.prods bareL s at_ a1 w1.heap.size (2 * unm (d.prods.flatMap bareL) out + (out.length + 1 - a1)) w1 out (.slice a7 out.length c7) wr from ⟨hh.out.1, hh.out.2.1, HI0.out, hh.out.2.2.2.1, by omega, Nat.le_refl _⟩)
        obtain ⟨wo, hwo⟩ : ∃ wo : World, wo = wr := ⟨_, rfl⟩
        rw [← hwo] at HF0 ⊢
        obtain ⟨M0, hM0⟩ : ∃ M0, 2 * unm (d.prods.flatMap bareL) out + (out.length + 1 - a1) = M0 := ⟨_, rfl⟩
        have HM0 := hide hM0
        rw [hM0] at HF0
        have hu2 := hu.out
        rw [hM0] at hu2
        have HU := hide hu2
        clear hwo hh hr7 hM0 hu hu2 hat HI0
        generalize (.slice a7 out.length c7 : Value) = v7 at HF0 ⊢
        go_wp2_with fail
        go_loopg [7, 10] d.prods.length (fun u v7 v10 wr => ∃ k out, Hid (u = d.prods.length - k) ∧ v10 = .int .i64 (k : Int) ∧ Hid (k ≤ d.prods.length ∧ FarI d.prods bareL s at_ a1 w1.heap.size M0 w1 out v7 wr ∧ ∀ i (h : i < d.prods.length), i < k → (d.prods[i]).sort = at_ → ∀ n ∈ bareL d.prods[i], n ∈ out))
        case atStart => exact ⟨0, out, hide rfl, rfl, hide ⟨Nat.zero_le _, HF0.out, fun i _ h => by omega⟩⟩
        case round =>
          obtain ⟨k, out, hu, rfl, hh⟩ := hrel
          have hkl := hh.out.1
          have x2 := (HX0.out.below hh.out.2.1.b).cell 2
          have xl := (HX0.out.below hh.out.2.1.b).lt
          by_cases hltk : k < d.prods.length
          · have hltki : (k : Int) < (d.prods.length : Int) := by omega
            obtain ⟨b, o, rfl, hb, hatp⟩ := HD.out.p.get hltk
            have hx := hatp k hltk
            have HPM := hide (List.getElem_mem hltk)
            have HNX := hide (fun (out' : List ByteArray) (hm : ∀ x ∈ out, x ∈ out') (hq : (d.prods[k]).sort = at_ → ∀ n ∈ bareL d.prods[k], n ∈ out') => (show ∀ i (h : i < d.prods.length), i < k + 1 → (d.prods[i]).sort = at_ → ∀ n ∈ bareL d.prods[i], n ∈ out' from fun i h hi he n hn => by
              by_cases e : i = k
              · subst e; exact hq he n hn
              · exact hm n (hh.out.2.2 i h (by omega) he n hn)))
            generalize d.prods[k] = p at hx HPM HNX
            clear hatp
            obtain ⟨ap, cp, ⟨e0, e1, e2, e3, e4⟩, hrow⟩ := hx.cells
            have HROW1 := hide hrow
            have hsl := hrow.1
            have hbw := hh.out.2.1.b
            replace e0 := (hbw.cell (p := ⟨b, o + k * 5, none⟩) hb).trans e0
            replace e1 := (hbw.cell (p := ⟨b, o + k * 5 + 1, none⟩) hb).trans e1
            replace e2 := (hbw.cell (p := ⟨b, o + k * 5 + 2, none⟩) hb).trans e2
            replace e3 := (hbw.cell (p := ⟨b, o + k * 5 + 3, none⟩) hb).trans e3
            replace e4 := (hbw.cell (p := ⟨b, o + k * 5 + 4, none⟩) hb).trans e4
            replace hb := Nat.lt_of_lt_of_le hb hbw.size
            clear hbw
            have HBX := hide (NB.alloc (Below.refl wr.heap.size wr) (.cells #[.bool p.lex, .string p.sort, .string p.cons, .bool p.bracket, .slice ap p.syms.length cp] 38))
            have HF := hide (hh.out.2.1.below HBX.out)
            have HY := hide (Blk.new wr #[.bool p.lex, .string p.sort, .string p.cons, .bool p.bracket, .slice ap p.syms.length cp] 38)
            clear hx hrow hh
            go_upto_region 12 with fail
            obtain ⟨ky, hky⟩ : ∃ ky, wr.heap.size = ky := ⟨_, rfl⟩
            rw [hky] at HY ⊢
            clear hky e0 e1 e2 e3 e4 x2 xl hb HBX
            generalize wr.alloc (.cells #[.bool p.lex, .string p.sort, .string p.cons, .bool p.bracket, .slice ap p.syms.length cp] 38) = w6 at HF HY ⊢
            have y0 := HY.out.cell 0
            have y1 := HY.out.cell 1
            have y2 := HY.out.cell 2
            have y3 := HY.out.cell 3
            have y4 := HY.out.cell 4
            have yl := HY.out.lt
            by_cases hso : p.sort = at_
            · have h2 : p.sort.toList = at_.toList := by rw [hso]
              have h1 : (p.sort.toList == at_.toList) = true := by rw [hso]; simp
              have h1n : (!p.sort.toList == at_.toList) = false := by rw [h1]; rfl
              have HSO := hide hso
              clear hso
              have HBO := hide (bareOf_any p ap cp w6 (HROW1.out.below SyAt.stable HF.out.b) (HSL.out p HPM.out))
              have HBM := hide (fun (h : emp (bareR p) = false) => (show short (bareR p) by
                obtain ⟨s', hs', he'⟩ := bareR_mem p h
                rw [← he']
                obtain ⟨i, hi, rfl⟩ := List.mem_iff_getElem.1 hs'
                obtain ⟨_, _, _, _, hat'⟩ := HROW1.out.get hi
                exact (hat' i hi).1.n))
              obtain ⟨nb, hnb⟩ : ∃ nb, bareR p = nb := ⟨_, rfl⟩
              rw [hnb] at HBO HBM
              have HLR := hide (show bareL p = if emp nb = true then [] else [nb] by rw [bareL_R, hnb])
              clear hnb
              go_wp2_with fail
              refine HBO.out.mono ?_
              rintro e w8 ⟨rfl, hb8⟩
              have HF8 := hide (HF.out.below hb8)
              have hlo := HF.out.n
              clear y0 y1 y2 y3 y4 yl hb8 HBO
              rcases emp_or nb with ⟨bn, zn, yn, vn, xn⟩ | ⟨bn, zn, yn, vn, xn⟩
              · have hne : (nb.toList == []) = true := by rw [xn]; rfl
                have hne2 : (!nb.toList == []) = false := by rw [hne]; rfl
                go_wp2_with fail
                go_roundg (d.prods.length - (k + 1))
                case measure => rw [hu.out]; omega
                case rel => exact ⟨k + 1, out, hide rfl, by go_num, hide ⟨hltk, HF8.out, HNX.out out (fun _ h => h) (fun _ n hn => by rw [HLR.out, if_pos zn.out] at hn; cases hn)⟩⟩
              have hne : (nb.toList == []) = false := beq_eq_false_iff_ne.2 xn
              have hne2 : (!nb.toList == []) = true := by rw [hne]; rfl
              replace HLR := hide (show bareL p = [nb] by rw [HLR.out, if_neg (by rw [zn.out]; decide)])
              obtain ⟨a9, c9, ev7, hr9⟩ := HF8.out.o.row (by omega)
              subst ev7
              have HIN := hide (rIn_any out nb a9 c9 w8 hr9)
              clear hr9
              cases hin : inB nb out with
              | true =>
                rw [hin] at HIN
                have HMEM := hide ((inB_iff _ _).1 hin)
                clear hin
                go_wp2_with fail
                refine HIN.out.mono ?_
                rintro e w7 ⟨rfl, rfl⟩
                go_wp2_with fail
                go_roundg (d.prods.length - (k + 1))
                case measure => rw [hu.out]; omega
                case rel => exact ⟨k + 1, out, hide rfl, by go_num, hide ⟨hltk, HF8.out, HNX.out out (fun _ h => h) (fun _ n hn => by rw [HLR.out] at hn; simp at hn; rw [hn]; exact HMEM.out)⟩⟩
              | false =>
                rw [hin] at HIN
                have HINF := hide hin
                have HOW := hide HF8.out.o
                have hbs := HF8.out.b.size
                clear hin
                go_wp2_with fail
                refine HIN.out.mono ?_
                rintro e w7 ⟨rfl, rfl⟩
                go_wp2_with (at_builtin; refine wpList_append_own _ rfl _ _ 56 rfl w1.heap.size 9 i0 (.string ⟨#[]⟩) 1 16 Try.underlying56 hi hz0 hz1 hz2 rfl (by decide) _ _ (strsC out) rfl (HOW.out.1.alloc _) ⟨w8.heap.size, 0, none⟩ 1 1 [.string nb] rfl rfl (cells_at _ _ _ _ rfl) (by intro y hy; simp at hy; subst hy; rfl) (by unfold maxLen; omega) (by omega) (by simp; omega) ?_)
                intro v' w7 hown' hgrow _
                have HG := hide hgrow
                have HO := hide hown'
                clear hgrow hown'
                have hmemp : nb ∈ bareL p := by rw [HLR.out]; simp
                have HADD := hide (HF8.out.add (Nat.le_refl _) (HBM.out zn.out) (HF8.out.i.reach HPM.out HSO.out hmemp) (List.mem_flatMap.2 ⟨p, HPM.out, hmemp⟩) HINF.out HO.out rfl HG.out)
                clear hmemp
                go_wp2_with fail
                go_roundg (d.prods.length - (k + 1))
                case measure => rw [hu.out]; omega
                case rel => exact ⟨k + 1, out ++ [nb], hide rfl, by go_num, hide ⟨hltk, HADD.out, HNX.out _ (fun x hx => List.mem_append_left _ hx) (fun _ n hn => by rw [HLR.out] at hn; simp at hn; rw [hn]; simp)⟩⟩
            · have h2 : ¬ p.sort.toList = at_.toList := fun h => hso ((toList_eq_iff _ _).1 h)
              have h1 : (p.sort.toList == at_.toList) = false := beq_eq_false_iff_ne.2 h2
              have h1n : (!p.sort.toList == at_.toList) = true := by rw [h1]; rfl
              have HSO := hide hso
              clear hso
              go_wp2_with fail
              go_roundg (d.prods.length - (k + 1))
              case measure => rw [hu.out]; omega
              case rel => exact ⟨k + 1, out, hide rfl, by go_num, hide ⟨hltk, HF.out, HNX.out out (fun _ h => h) (fun h => absurd h HSO.out)⟩⟩
          · have hltki : ¬ (k : Int) < (d.prods.length : Int) := by omega
            have HE := hide hh.out
            clear hh
            go_wp2_with fail
            go_roundg (2 * unm (d.prods.flatMap bareL) out + (out.length + 1 - (a1 + 1)))
            case measure => rw [HU.out]; have := HE.out.2.1.m; have := HE.out.2.1.a; omega
            case rel =>
              have hz := atZ_bd a1
              refine ⟨a1 + 1, out, hide rfl, by rw [show atZ (a1 + 1) = (a1 : Int) from rfl, ← hz.2], hide ⟨HE.out.2.1.b, HE.out.2.1.o, HE.out.2.1.i.done (fun p hp hs n hn => ?_), HE.out.2.1.n, by have := HE.out.2.1.a; omega⟩⟩
              obtain ⟨i, hi, rfl⟩ := List.mem_iff_getElem.1 hp
              exact HE.out.2.2 i hi (by omega) hs n hn
    · have hlti : ¬ atZ a1 < (out.length : Int) := fun h => hlt ((atZ_lt _ _).1 h)
      have HO := hide (hh.out.2.1.base HB0.out.size)
      have HOUT := hide (show ∀ t, t ∈ out ↔ Reach d.prods bareL s t by
        have h := hh.out.2.2.1
        rw [List.drop_eq_nil_of_le (by simp; omega)] at h
        exact h.out)
      go_wp2_with fail
      go_ret
      exact ⟨_, rfl, out, HO.out, HOUT.out, by omega, below_next HB0.out hh.out.1⟩
end Go.Proofs.Ytalicfpcmcbdbaa
