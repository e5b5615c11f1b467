/- The walk of reach. -/
import Derived.Test.YtalicfpcmcbdbaaZBook
import Derived.Test.YtalicfpcmcbdbaaZReach
import Derived.Test.YtalicfpcmcbdbaaZRSym
import Derived.Shelf.GgClosure.Gives
set_option linter.unusedVariables false
set_option linter.unusedSimpArgs false
set_option linter.unnecessarySimpa false
set_option linter.deprecated false
namespace Go.Proofs.Ytalicfpcmcbdbaa
open Go.RowKit

theorem own_pop {w : World} {B g n cap : Nat} {e : TypeId} {xs ys : List Value} (h : w.ownsRow B e 1 (.slice (some ⟨g, 0, none⟩) (n + 1) cap) (n + 1) (xs ++ ys)) (hx : xs.length = n) : w.ownsRow B e 1 (.slice (some ⟨g, 0, none⟩) n cap) n xs := by
  refine ⟨by omega, ?_⟩
  rcases h.2 with ⟨h', _⟩ | ⟨g', cap', cur, h', hB, hh, hc, hm, hs, ht⟩
  · simp at h'
  · simp only [Value.slice.injEq, Option.some.injEq, Addr.mk.injEq, and_true, true_and] at h'
    obtain ⟨rfl, rfl⟩ := h'
    refine .inr ⟨g, cap, cur, rfl, hB, hh, by omega, hm, hs, ?_⟩
    have h2 := congrArg (List.take n) ht
    rw [List.take_take, List.take_append_of_le_length (by omega), List.take_of_length_le (l := xs) (by omega)] at h2
    rw [Nat.min_eq_left (by omega)] at h2
    rw [Nat.mul_one]
    exact h2
theorem OwnS.pop {B g n cap : Nat} {l : List ByteArray} {s : ByteArray} {W : World} (h : OwnS B (.slice (some ⟨g, 0, none⟩) (n + 1) cap) (l ++ [s]) W) (hn : l.length = n) : OwnS B (.slice (some ⟨g, 0, none⟩) n cap) l W := by
  subst hn
  refine ⟨own_pop (ys := [.string s]) ?_ (by simp [strsC]), fun t ht => h.2 t (List.mem_append_left _ ht)⟩
  have := h.1
  rw [List.length_append, strsC_snoc] at this
  exact this
theorem OwnS.grown {B : Nat} {v : Value} {l : List ByteArray} {W W' : World} {row : Option Nat} (h : OwnS B v l W) (hg : W.grownBy W' row) (hne : v.ownBlock ≠ row) : OwnS B v l W' := ⟨h.1.kept hg (Or.inr hne), h.2⟩
theorem OwnS.grown' {B : Nat} {v : Value} {l : List ByteArray} {W W' : World} {row : Option Nat} (h : OwnS B v l W) (hg : W.grownBy W' row) (hne : ∀ g, v.ownBlock = some g → row ≠ some g) : OwnS B v l W' := by
  refine ⟨h.1.kept hg ?_, h.2⟩
  cases hv : v.ownBlock with
  | none => exact Or.inl rfl
  | some g => exact Or.inr (fun e => hne g hv e.symm)
theorem OwnS.bounds {B : Nat} {v : Value} {l : List ByteArray} {W : World} (h : OwnS B v l W) : ∀ g, v.ownBlock = some g → B ≤ g ∧ g < W.heap.size := fun g hg => by
  obtain ⟨h1, cur, h2⟩ := own_typed h.1 hg
  exact ⟨h1, (Array.getElem?_eq_some_iff.1 h2).1⟩
/-- A row's block lies outside of a stretch of blocks. -/
def NoB (v : Value) (lo hi : Nat) : Prop := ∀ g, v.ownBlock = some g → g < lo ∨ hi ≤ g
/-- The world of reach. -/
structure RcW (w : World) (mb : Nat) (met : List ByteArray) (v : Value) (tl : List ByteArray) (W : World) : Prop where
  b : Below w.heap.size w W
  mp : MapF W mb met.length (metF met)
  ow : OwnS w.heap.size v tl W
  nm : w.heap.size ≤ mb
  le : tl.length ≤ met.length + 1
  sh : ∀ s ∈ met, short s
theorem RcW.keep {w : World} {mb : Nat} {met : List ByteArray} {v : Value} {tl : List ByteArray} {W W' : World} (h : RcW w mb met v tl W) (hb : Below W.heap.size W W') : RcW w mb met v tl W' := ⟨below_next h.b hb, h.mp.below hb, h.ow.below hb, h.nm, h.le, h.sh⟩
/-- A name more: marked, and pushed. -/
theorem RcW.add {w : World} {mb : Nat} {met : List ByteArray} {v v' : Value} {tl : List ByteArray} {W W1 W2 : World} {s : ByteArray} {o : Obj} (h : RcW w mb met v tl W) (hs : short s) (hm : MapF W1 mb (met.length + 1) (upd (metF met) s 1)) (hg1 : W.grownBy W1 (some mb))
    (ho : W2.ownsRow w.heap.size 9 1 v' (tl.length + 1) (strsC tl ++ [.string s])) (hg2 : (W1.alloc o).grownBy W2 v.ownBlock) : RcW w mb (met ++ [s]) v' (tl ++ [s]) W2 := by
  have hb1 : Below w.heap.size w W1 := h.b.grown hg1 h.b.size (fun g e => by injection e with e; rw [← e]; exact h.nm)
  have ho1 : OwnS w.heap.size v tl W1 := h.ow.grown hg1 (fun e => h.mp.ne_own h.ow.1 e.symm)
  have hb2 := hb1.alloc hb1.size o
  have hm2 : MapF (W1.alloc o) mb (met.length + 1) (upd (metF met) s 1) := hm.below ((Below.refl _ _).alloc (Nat.le_refl _) _)
  refine ⟨hb2.grown hg2 hb2.size (own_block_ge ho1.1), ?_, OwnS.push h.ow.2 hs ho rfl, h.nm, by simp; exact h.le, fun t ht => ?_⟩
  · rw [metF_add, List.length_append]
    exact hm2.grown hg2 (hm.ne_own ho1.1)
  · rcases List.mem_append.1 ht with ht | ht
    · exact h.sh t ht
    · simp at ht; subst ht; exact hs
theorem snoc_of {α : Type} (l : List α) (h : l ≠ []) : ∃ l' x, l = l' ++ [x] := by
  rcases List.eq_nil_or_concat l with e | ⟨l', x, e⟩
  · exact absurd e h
  · exact ⟨l', x, by simpa using e⟩
theorem flat_len {ps : List Pd} {p : Pd} (stp : Pd → List ByteArray) (hp : p ∈ ps) : (stp p).length ≤ (ps.flatMap stp).length := by
  induction ps with
  | nil => cases hp
  | cons q qs ih =>
    rw [List.flatMap_cons, List.length_append]
    rcases List.mem_cons.1 hp with rfl | hp
    · omega
    · have := ih hp; omega
/-- What reach answers. -/
def ReachP (ps : List Pd) (stp : Pd → List ByteArray) (from_ : ByteArray) (w : World) (e : Ending) (w' : World) : Prop := ∃ mb n met, e = .returned (.map (some mb)) ∧ Hid (MapF w' mb n (metF met) ∧ (∀ s, s ∈ met ↔ Reach ps stp from_ s) ∧ (∀ s ∈ met, short s) ∧ w.heap.size ≤ mb ∧ n ≤ 100000 ∧ Below w.heap.size w w')

set_option maxHeartbeats 8000000 in
set_option maxRecDepth 100000 in
theorem reach_at (d : Df) (a2 : Option Addr) (c2 : Nat) (a3 : Option Addr) (c3 : Nat) (a4 : Option Addr) (c4 : Nat) (a5 : Option Addr) (c5 : Nat) (a6 : Option Addr) (c6 : Nat) (as_ : Option Addr) (cs m n : Nat) (bb : Nat) (from_ : ByteArray) (g : Nat) (stp : Pd → List ByteArray) (eg : ∀ args w, (callFunc g args).run Try.prog w = .ok (.enter g args) w) (w : World) (hbk : Book d a2 c2 a3 c3 a4 c4 a5 c5 a6 c6 as_ cs m n bb w) (hf : short from_) (hall : (d.prods.flatMap stp).length ≤ 99999) (hln : d.prods.length ≤ 100000)
    (hst : ∀ W p ap cp, p ∈ d.prods → Row SyAt 8 p.syms ap W → Calls Try.prog g #[.agg #[.bool p.lex, .string p.sort, .string p.cons, .bool p.bracket, .slice ap p.syms.length cp]] W fun e w' => ∃ v, e = .returned v ∧ OwnS W.heap.size v (stp p) w' ∧ Below W.heap.size W w') :
    Calls Try.prog 59 #[.pointer (some ⟨bb, 0, none⟩), .string from_, .func (.func g) #[] #[]] w (ReachP d.prods stp from_ w) := by
  obtain ⟨i0, hi, hz0, hz1, hz2⟩ := info_parts info9
  have hmm := @run_makeMap Try.prog
  have HBK := hide hbk
  have HST := hide hst
  have HF := hide hf
  have HALL := hide hall
  clear hbk hst hf hall
  go_enter Try.func59, Try.ntmps59
  go_wp2_with fail
  have HI0 := hide (show RcW w w.heap.size [] (.slice (some ⟨w.heap.size + 1, 0, none⟩) 1 1) [from_] ((w.alloc (.map #[] 0)).alloc (.cells #[.string from_] 9)) from
    ⟨NB.alloc (NB.alloc (Below.refl _ _) _) _, by rw [metF_nil]; exact (MapF.made w).below ((Below.refl _ _).alloc (Nat.le_refl _) _), by have := OwnS.one (w.alloc (.map #[] 0)) from_ HF.out; simp only [World.size_alloc] at this; exact this.base (by omega), Nat.le_refl _, Nat.le_refl _, fun s h => (by cases h)⟩)
  clear hmm
  generalize (w.alloc (.map #[] 0)).alloc (.cells #[.string from_] 9) = w0 at HI0 ⊢
  generalize (.slice (some ⟨w.heap.size + 1, 0, none⟩) 1 1 : Value) = v0 at HI0 ⊢
  obtain ⟨mb, hmb⟩ : ∃ mb, w.heap.size = mb := ⟨_, rfl⟩
  have HI1 := hide (show RcW w mb [] v0 [from_] w0 by rw [← hmb]; exact HI0.out)
  rw [hmb]
  clear HI0 hmb
  go_loopg [8] (([from_] : List ByteArray).length + 2 * unm (d.prods.flatMap stp) []) (fun u v8 wr => ∃ met tl, Hid (u = tl.length + 2 * unm (d.prods.flatMap stp) met) ∧ Hid (RcW w mb met v8 tl wr ∧ RcO d.prods stp from_ met tl ∧ met.length + unm (d.prods.flatMap stp) met ≤ 99999))
  case atStart => exact ⟨[], [from_], hide rfl, hide ⟨HI1.out, RcO.start _ _ _, by have := List.length_filter_le (fun n => !inB n []) (d.prods.flatMap stp); have := HALL.out; unfold unm; simp only [List.length_nil]; omega⟩⟩
  case round =>
    obtain ⟨met, tl, hu, hh⟩ := hrel
    by_cases hnil : tl = []
    · subst hnil
      obtain ⟨a8, c8, rfl, _⟩ := own_shape hh.out.1.ow.1
      go_wp2_with fail
      go_ret
      exact ⟨mb, met.length, met, rfl, hide ⟨hh.out.1.mp, hh.out.2.1.out, hh.out.1.sh, hh.out.1.nm, by have := hh.out.2.2; omega, hh.out.1.b⟩⟩
    · obtain ⟨tl, at_, rfl⟩ := snoc_of tl hnil
      have ho := hh.out.1.ow
      obtain ⟨g8, c8, rfl, hg8, hg8l, hcap, hcell⟩ := own_at ho.1 (by simp)
      obtain ⟨n8, hn8⟩ : ∃ n, tl.length = n := ⟨_, rfl⟩
      have hlen : (tl ++ [at_]).length = n8 + 1 := by simp [hn8]
      rw [hlen] at ho hcap
      have e8 : wr.cell? ⟨g8, n8, none⟩ = some (.string at_) := by
        refine hcell n8 _ ?_
        rw [strsC_snoc, List.getElem?_append_right (by simp [strsC, hn8])]
        simp [strsC, hn8]
      have HO := hide (ho.pop hn8)
      have hu2 := hu.out
      rw [hlen] at hu2 ⊢
      have HU := hide hu2
      have HW := hide (show RcW w mb met (.slice (some ⟨g8, 0, none⟩) n8 c8) tl wr from ⟨hh.out.1.b, hh.out.1.mp, HO.out, hh.out.1.nm, by have := hh.out.1.le; simp at this; omega, hh.out.1.sh⟩)
      have HI := hide hh.out.2.1.pop
      have HC := hide hh.out.2.2
      have HN8 := hide hn8
      have hle8 : n8 ≤ 100001 := by have := hh.out.1.le; have := hh.out.2.2; rw [hlen] at *; omega
      have hbk := HBK.out.below hh.out.1.b
      have bk2 := hbk.bk.cell 2
      have bkl := hbk.bk.lt
      have hcapi : (n8 : Int) ≤ (c8 : Int) := by omega
      have hcapn : n8 ≤ c8 := by omega
      clear ho hcell hcap hlen hu2 hbk hg8
      go_wp2_with fail
      clear e8 bk2 bkl
      generalize (.slice (some ⟨g8, 0, none⟩) n8 c8 : Value) = v8 at HW ⊢
      obtain ⟨wo, hwo⟩ : ∃ wo : World, wo = wr := ⟨_, rfl⟩
      rw [← hwo] at HW ⊢
      clear hwo hh
      go_loopg [8, 37] d.prods.length (fun u v8 v37 wr => ∃ k met tl, Hid (u = d.prods.length - k) ∧ v37 = .int .i64 (k : Int) ∧ Hid (k ≤ d.prods.length ∧ RcW w mb met v8 tl wr ∧ RcI d.prods stp from_ at_ met tl ∧ met.length + unm (d.prods.flatMap stp) met ≤ 99999 ∧ tl.length + 2 * unm (d.prods.flatMap stp) met + 1 ≤ gk ∧ ∀ i (h : i < d.prods.length), i < k → (d.prods[i]).sort = at_ → ∀ n ∈ stp d.prods[i], n ∈ met))
      case atStart => exact ⟨0, met, tl, hide rfl, rfl, hide ⟨Nat.zero_le _, HW.out, HI.out, HC.out, by have := HU.out; have := HN8.out; omega, fun i _ h => by omega⟩⟩
      case round =>
        obtain ⟨k, met, tl, hu, rfl, hh⟩ := hrel
        have hkl := hh.out.1
        by_cases hlt : k < d.prods.length
        · have hlti : (k : Int) < (d.prods.length : Int) := by omega
          have hg2 : Row PdAt 5 d.prods a2 wr := (HBK.out.below hh.out.2.1.b).rd.p
          obtain ⟨b, o, rfl, hb, hat⟩ := hg2.get hlt
          have hx := hat k hlt
          have HD := hide hh.out.2.2.2.2.2
          have HPM := hide (List.getElem_mem hlt)
          have HNX := hide (fun (met' : List ByteArray) (hm : ∀ x ∈ met, x ∈ met') (hq : (d.prods[k]).sort = at_ → ∀ n ∈ stp d.prods[k], n ∈ met') => (show ∀ i (h : i < d.prods.length), i < k + 1 → (d.prods[i]).sort = at_ → ∀ n ∈ stp d.prods[i], n ∈ met' from fun i h hi he n hn => by
            by_cases e : i = k
            · subst e; exact hq he n hn
            · exact hm n (hh.out.2.2.2.2.2 i h (by omega) he n hn)))
          generalize d.prods[k] = p at hx HPM HNX
          clear hat HD
          obtain ⟨ap, cp, ⟨e0, e1, e2, e3, e4⟩, hrow⟩ := hx.cells
          have HROW := hide hrow
          have HW2 := hide (hh.out.2.1.keep ((Below.refl wr.heap.size wr).alloc (Nat.le_refl _) (.cells #[.bool p.lex, .string p.sort, .string p.cons, .bool p.bracket, .slice ap p.syms.length cp] 38)))
          have HBX := hide ((Below.refl wr.heap.size wr).alloc (Nat.le_refl _) (.cells #[.bool p.lex, .string p.sort, .string p.cons, .bool p.bracket, .slice ap p.syms.length cp] 38))
          clear hx hrow
          by_cases hso : p.sort = at_
          · have hsl : p.sort.toList = at_.toList := by rw [hso]
            have HSO := hide hso
            have HC2 := hide (HST.out (wr.alloc (.cells #[.bool p.lex, .string p.sort, .string p.cons, .bool p.bracket, .slice ap p.syms.length cp] 38)) p ap cp HPM.out (HROW.out.below SyAt.stable HBX.out))
            clear hso
            have HFL := hide (flat_len stp HPM.out)
            go_wp2_with (go_at_fn g; refine HC2.out.mono ?_; rintro e w5 ⟨vn, rfl, ho5, hb5⟩; obtain ⟨an, cn, rfl, hr5⟩ := ho5.row (by have := HFL.out; have := HALL.out; omega); have HR5 := hide hr5; have HO5 := hide ho5; have HGN := hide ho5.bounds; have hs5 := hb5.size; have HW5 := hide (HW2.out.keep hb5); clear hr5 ho5 hb5)
            clear e0 e1 e2 e3 e4 hb
            have hl5 := HR5.out.1
            obtain ⟨w6, hw6⟩ : ∃ wo : World, wo = w5 := ⟨_, rfl⟩
            rw [← hw6] at HR5 HW5 HO5 HGN hs5 ⊢
            clear hw6
            have HNB := hide (show NoB u8 (wr.alloc (.cells #[.bool p.lex, .string p.sort, .string p.cons, .bool p.bracket, .slice ap p.syms.length cp] 38)).heap.size w6.heap.size from fun g hg => Or.inl (HW2.out.ow.bounds g hg).2)
            obtain ⟨lo, hlo⟩ : ∃ lo, (wr.alloc (.cells #[.bool p.lex, .string p.sort, .string p.cons, .bool p.bracket, .slice ap p.syms.length cp] 38)).heap.size = lo := ⟨_, rfl⟩
            rw [hlo] at HNB HO5 HGN hs5
            have HLO := hide (show w.heap.size ≤ lo from by rw [← hlo]; exact HW2.out.b.size)
            clear hlo
            have HII := hide hh.out.2.2.1
            have HCC := hide hh.out.2.2.2.1
            have HMM := hide hh.out.2.2.2.2.1
            have HHU := hide hu.out
            clear hh hu HW2 HBX HC2
            obtain ⟨gl, hgl⟩ : ∃ x, x = gk := ⟨_, rfl⟩
            go_loopg [8, 49] (stp p).length (fun u v8 v49 wr => ∃ j met' tl', Hid (u = (stp p).length - j) ∧ v49 = .int .i64 (j : Int) ∧ Hid (j ≤ (stp p).length ∧ RcW w mb met' v8 tl' wr ∧ (OwnS lo (.slice an (stp p).length cn) (stp p) wr ∧ NoB v8 lo w6.heap.size ∧ w6.heap.size ≤ wr.heap.size) ∧ RcI d.prods stp from_ at_ met' tl' ∧ met'.length + unm (d.prods.flatMap stp) met' ≤ 99999 ∧ tl'.length + 2 * unm (d.prods.flatMap stp) met' ≤ tl.length + 2 * unm (d.prods.flatMap stp) met ∧ (∀ x ∈ met, x ∈ met') ∧ ∀ i (h : i < (stp p).length), i < j → (stp p)[i] ∈ met'))
            case atStart => exact ⟨0, met, tl, hide rfl, rfl, hide ⟨Nat.zero_le _, HW5.out, ⟨HO5.out, HNB.out, Nat.le_refl _⟩, HII.out, HCC.out, Nat.le_refl _, fun _ h => h, fun i _ h => by omega⟩⟩
            case round =>
              obtain ⟨j, met', tl', hv, rfl, hi3⟩ := hrel
              have hjl := hi3.out.1
              by_cases hltj : j < (stp p).length
              · have hltji : (j : Int) < ((stp p).length : Int) := by omega
                obtain ⟨a0, c0, ea0, hr0⟩ := hi3.out.2.2.1.1.row hl5
                obtain ⟨rfl, rfl⟩ : an = a0 ∧ cn = c0 := by injection ea0 with e1 _ e3; exact ⟨e1, e3⟩
                clear ea0
                obtain ⟨b2, o2, rfl, hb2, hat2⟩ := hr0.get hltj
                clear hr0
                have hx2 := hat2 j hltj
                rw [Nat.mul_one] at hx2
                have HNM := hide (List.getElem_mem hltj)
                have HEE := hide (fun (met2 : List ByteArray) (hm : ∀ x ∈ met', x ∈ met2) (hq : (stp p)[j] ∈ met2) => (show ∀ i (h : i < (stp p).length), i < j + 1 → (stp p)[i] ∈ met2 from fun i h hlt => by
                  by_cases e : i = j
                  · subst e; exact hq
                  · exact hm _ (hi3.out.2.2.2.2.2.2.2 i h (by omega))))
                generalize (stp p)[j] = s at hx2 HNM HEE
                clear hat2
                obtain ⟨hsh, f0⟩ := hx2
                have HSH := hide hsh
                have hlk := hi3.out.2.1.mp.look s hsh
                have hle := hi3.out.2.1.le
                have hcc := hi3.out.2.2.2.2.1
                have hml : met'.length ≤ 99999 := by omega
                have htl : tl'.length ≤ 100000 := by omega
                clear hsh
                cases hin : inB s met' with
                | true =>
                  have hlk1 : metF met' s = 1 := by unfold metF; rw [hin]; rfl
                  rw [hlk1] at hlk
                  have HIN := hide ((inB_iff _ _).1 hin)
                  clear hin hlk1
                  go_wp2_with fail
                  go_roundg ((stp p).length - (j + 1))
                  case measure => rw [hv.out]; omega
                  case rel => exact ⟨j + 1, met', tl', hide rfl, by go_num, hide ⟨hltj, hi3.out.2.1, hi3.out.2.2.1, hi3.out.2.2.2.1, hi3.out.2.2.2.2.1, hi3.out.2.2.2.2.2.1, hi3.out.2.2.2.2.2.2.1, HEE.out met' (fun _ h => h) HIN.out⟩⟩
                | false =>
                  have hlk0 : metF met' s = 0 := by unfold metF; rw [hin]; rfl
                  rw [hlk0] at hlk
                  have HIN := hide hin
                  clear hin hlk0
                  have HMP := hide hi3.out.2.1.mp
                  have hml2 : met'.length < 1000000 := by omega
                  go_wp2_with (first
                    | (at_mapUpdate; refine wpList_update rfl _ _ _ rfl mb met'.length (metF met') rfl HMP.out hml2 s HSH.out 1 (by decide) (by unfold i64; omega) rfl rfl ?_; intro w7 hm7 hg7; have HM7 := hide hm7; have HG7 := hide hg7; have HO7 := hide (hi3.out.2.1.ow.grown hg7 (fun e => hi3.out.2.1.mp.ne_own hi3.out.2.1.ow.1 e.symm)); have hs7 := hg7.size; clear hm7 hg7 hlk f0 hb2)
                    | (at_builtin; refine wpList_append_own_at _ rfl _ _ 56 rfl w.heap.size 9 i0 (.string ⟨#[]⟩) 1 16 Try.underlying56 hi hz0 hz1 hz2 rfl (by decide) _ _ (strsC tl') rfl (HO7.out.1.alloc _) ⟨w7.heap.size, 0, none⟩ 1 1 [.string s] rfl rfl ?c1 ?c2 ?c3 ?c4 ?c5 ?_))
                  case c1 => exact cells_at _ _ _ _ rfl
                  case c2 => first | (intro y hy; simp at hy; subst hy; rfl) | rfl
                  case c3 => unfold maxLen; omega
                  case c4 => omega
                  case c5 => have := hi3.out.2.1.b.size; simp; omega
                  intro v9 w8 ho8 hg8 _ hat8
                  have HADD := hide (hi3.out.2.1.add HSH.out HM7.out HG7.out ho8 hg8)
                  have hown7 : OwnS lo (.slice (some ⟨b2, o2, none⟩) (stp p).length cn) (stp p) w7 := hi3.out.2.2.1.1.grown' HG7.out (fun g hg e => hi3.out.2.1.mp.ne_own hi3.out.2.2.1.1.1 (e.trans hg.symm))
                  have hown8 : OwnS lo (.slice (some ⟨b2, o2, none⟩) (stp p).length cn) (stp p) w8 := (hown7.below ((Below.refl w7.heap.size w7).alloc (Nat.le_refl _) (.cells #[.string s] 9))).grown' hg8 (fun g hg e => by
                    have h1 := HGN.out g hg
                    rcases hi3.out.2.2.1.2.1 g e with h2 | h2 <;> omega)
                  have hsz8 : w6.heap.size ≤ w8.heap.size := by have := hi3.out.2.2.1.2.2; have := hg8.size; simp at this; omega
                  have hnb8 : NoB v9 lo w6.heap.size := fun g hg => by
                    rcases hat8 with e | e
                    · rw [e] at hg; exact hi3.out.2.2.1.2.1 g hg
                    · rw [e] at hg; injection hg with hg; right; rw [← hg]; have := hi3.out.2.2.1.2.2; simp; omega
                  have HB8 := hide (And.intro hown8 (And.intro hnb8 hsz8))
                  clear ho8 hg8 hat8 hown7 hown8 hsz8 hnb8
                  go_wp2_with fail
                  go_roundg ((stp p).length - (j + 1))
                  case measure => rw [hv.out]; omega
                  case rel =>
                    have hu1 := unm_add (d.prods.flatMap stp) met' s (List.mem_flatMap.2 ⟨p, HPM.out, HNM.out⟩) HIN.out
                    have hreach := hi3.out.2.2.2.1.reach HPM.out HSO.out HNM.out
                    exact ⟨j + 1, met' ++ [s], tl' ++ [s], hide rfl, by go_num, hide ⟨hltj, HADD.out, HB8.out, hi3.out.2.2.2.1.add hreach, by have := hi3.out.2.2.2.2.1; simp; omega, by have := hi3.out.2.2.2.2.2.1; simp; omega, fun x hx => List.mem_append_left _ (hi3.out.2.2.2.2.2.2.1 x hx), HEE.out _ (fun x hx => List.mem_append_left _ hx) (by simp)⟩⟩
              · have hltji : ¬ (j : Int) < ((stp p).length : Int) := by omega
                have HD := hide hi3.out
                go_wp2_with fail
                go_roundg (d.prods.length - (k + 1))
                case measure => rw [HHU.out]; omega
                case rel => exact ⟨k + 1, met', tl', hide rfl, by go_num, hide ⟨hlt, HD.out.2.1, HD.out.2.2.2.1, HD.out.2.2.2.2.1, by have := HD.out.2.2.2.2.2.1; have := HMM.out; omega, HNX.out met' HD.out.2.2.2.2.2.2.1 (fun _ n hn => by
                  obtain ⟨i, hi, rfl⟩ := List.mem_iff_getElem.1 hn
                  exact HD.out.2.2.2.2.2.2.2 i hi (by omega))⟩⟩
          · have hsl : ¬ p.sort.toList = at_.toList := fun h => hso (data_inj (by simpa [ByteArray.toList_eq] using h))
            have hsn : (!p.sort.toList == at_.toList) = true := by simpa using hsl
            have HSO := hide hso
            clear hso
            go_wp2_with fail
            go_roundg (d.prods.length - (k + 1))
            case measure => rw [hu.out]; omega
            case rel => exact ⟨k + 1, met, tl, hide rfl, by go_num, hide ⟨hlt, HW2.out, hh.out.2.2.1, hh.out.2.2.2.1, hh.out.2.2.2.2.1, HNX.out met (fun _ h => h) (fun h => absurd h HSO.out)⟩⟩
        · have hlti : ¬ (k : Int) < (d.prods.length : Int) := by omega
          have HD := hide hh.out
          go_wp2_with fail
          go_roundg (tl.length + 2 * unm (d.prods.flatMap stp) met)
          case measure => have := HD.out.2.2.2.2.1; omega
          case rel => exact ⟨met, tl, hide rfl, hide ⟨HD.out.2.1, HD.out.2.2.1.done (fun p hp hs n hn => by
            obtain ⟨i, hi, rfl⟩ := List.mem_iff_getElem.1 hp
            exact HD.out.2.2.2.2.2 i hi (by omega) hs n hn), HD.out.2.2.2.1⟩⟩
end Go.Proofs.Ytalicfpcmcbdbaa
