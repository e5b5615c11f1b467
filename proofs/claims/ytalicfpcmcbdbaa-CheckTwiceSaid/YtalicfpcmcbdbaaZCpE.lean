/- Things of one own: items. -/
import Derived.Test.YtalicfpcmcbdbaaZCpM
import Derived.Test.YtalicfpcmcbdbaaZRItems
set_option linter.unusedVariables false
set_option linter.unusedSimpArgs false
set_option linter.unnecessarySimpa false
set_option linter.deprecated false
namespace Go.Proofs.Ytalicfpcmcbdbaa
open Go.RowKit

theorem info96 : (Try.prog.info? 96).map (fun i => (i.zero, i.size, i.bytes)) = some (some (.agg #[.int .i64 0, .string ⟨#[]⟩, .int .i64 0, .slice none 0 0]), 4, 56) := by kernel_rfl
mutual
/-- An item whose cells, and what they lead to, are one's own, in blocks of which P holds. -/
def EIt (P : Nat → Prop) : It → List Value → World → Prop
  | .mk k t n l, cs, W => ∃ v css, cs = [.int .i64 k, .string t, .int .i64 n, v] ∧ i64 k ∧ short t ∧ i64 n ∧ (W.ownsRow 0 96 4 v css.length css.flatten ∧ ∀ g, v.ownBlock = some g → P g) ∧ css.length = l.length ∧ (∀ c ∈ css, c.length = 4) ∧ EIts P l css W
def EIts (P : Nat → Prop) : List It → List (List Value) → World → Prop
  | [], _, _ => True
  | x :: xs, css, W => EIt P x (css.headD []) W ∧ EIts P xs css.tail W
end
theorem EIts_iff (P : Nat → Prop) : ∀ (l : List It) (css : List (List Value)) (W : World), css.length = l.length → (EIts P l css W ↔ ∀ i (h : i < css.length) (h2 : i < l.length), EIt P l[i] css[i] W)
  | [], css, W, _ => by rw [EIts]; simp
  | x :: xs, [], W, h => by simp at h
  | x :: xs, c :: cs, W, h => by
    rw [EIts]
    have ih := EIts_iff P xs cs W (by simpa using h)
    simp only [List.headD_cons, List.tail_cons]
    rw [ih]
    constructor
    · rintro ⟨h0, h1⟩ i hi hi2
      cases i with
      | zero => exact h0
      | succ i => exact h1 i (by simpa using hi) (by simpa using hi2)
    · intro h3
      exact ⟨h3 0 (by simp) (by simp), fun i hi hi2 => h3 (i + 1) (by simpa using hi) (by simpa using hi2)⟩
theorem EIt_iff (P : Nat → Prop) (x : It) (cs : List Value) (W : World) : EIt P x cs W ↔ ∃ v css, cs = [.int .i64 x.kind, .string x.text, .int .i64 x.num, v] ∧ i64 x.kind ∧ short x.text ∧ i64 x.num ∧ OwnE (EIt P) 0 96 4 x.kids v css W ∧ ∀ g, v.ownBlock = some g → P g := by
  obtain ⟨k, t, n, l⟩ := x
  rw [EIt]
  simp only [It.kind, It.text, It.num, It.kids]
  constructor
  · rintro ⟨v, css, h1, h2, h3, h4, h5, h6, h7, h8⟩
    exact ⟨v, css, h1, h2, h3, h4, ⟨h5.1, h6, h7, (EIts_iff P l css W h6).1 h8⟩, h5.2⟩
  · rintro ⟨v, css, h1, h2, h3, h4, h5, h6⟩
    exact ⟨v, css, h1, h2, h3, h4, ⟨h5.own, h6⟩, h5.len, h5.sz, (EIts_iff P l css W h5.len).2 h5.each⟩
/-- A row of one's own stays where its block does. -/
theorem own_same {W W' : World} {B B' n size : Nat} {e : TypeId} {v : Value} {xs : List Value} (h : W.ownsRow B e size v n xs) (hk : ∀ g c, v.ownBlock = some g → Blk W g c e → Blk W' g c e) : W'.ownsRow B e size v n xs := by
  refine ⟨h.1, ?_⟩
  rcases h.2 with h2 | ⟨g, cap, cur, rfl, h3, h4, h5⟩
  · exact Or.inl h2
  · exact Or.inr ⟨g, cap, cur, rfl, h3, hk g cur rfl h4, h5⟩
theorem own_lt {W : World} {B n size : Nat} {e : TypeId} {v : Value} {xs : List Value} (h : W.ownsRow B e size v n xs) : ∀ g, v.ownBlock = some g → g < W.heap.size := by
  intro g hg
  rcases h.2 with ⟨rfl, _⟩ | ⟨g', cap, cur, rfl, _, h4, _⟩
  · cases hg
  · simp only [Value.ownBlock, Option.some.injEq] at hg
    subst hg
    exact (Array.getElem?_eq_some_iff.1 h4).1
mutual
theorem EIt.keep : ∀ (x : It) {P P' : Nat → Prop} (cs : List Value) (W W' : World), (∀ g c, P g → Blk W g c 96 → Blk W' g c 96) → (∀ g, g < W.heap.size → P g → P' g) → EIt P x cs W → EIt P' x cs W'
  | .mk k t n l, P, P', cs, W, W', hk, hp, h => by
    rw [EIt] at h ⊢
    obtain ⟨v, css, h1, h2, h3, h4, h5, h6, h7, h8⟩ := h
    exact ⟨v, css, h1, h2, h3, h4, ⟨own_same (B' := 0) h5.1 (fun g c hg hb => hk g c (h5.2 g hg) hb), fun g hg => hp g (own_lt h5.1 g hg) (h5.2 g hg)⟩, h6, h7, EIts.keep l css W W' hk hp h8⟩
theorem EIts.keep : ∀ (l : List It) {P P' : Nat → Prop} (css : List (List Value)) (W W' : World), (∀ g c, P g → Blk W g c 96 → Blk W' g c 96) → (∀ g, g < W.heap.size → P g → P' g) → EIts P l css W → EIts P' l css W'
  | [], _, _, css, W, W', _, _, _ => by rw [EIts]; trivial
  | x :: xs, _, _, css, W, W', hk, hp, h => by
    rw [EIts] at h ⊢
    exact ⟨EIt.keep x _ W W' hk hp h.1, EIts.keep xs _ W W' hk hp h.2⟩
end
/-- All lists of items are such as can be copied. -/
inductive FitI : It → Prop where
  | mk (x : It) (h : x.kids.length * 56 ≤ 140737488351232) (hk : ∀ y ∈ x.kids, FitI y) : FitI x
def FitIs (l : List It) : Prop := l.length * 56 ≤ 140737488351232 ∧ ∀ y ∈ l, FitI y
theorem FitI.kids {x : It} (h : FitI x) : FitIs x.kids := by cases h with | mk _ h1 h2 => exact ⟨h1, h2⟩
theorem EIt_at (P : Nat → Prop) : ∀ (N : Nat) (x : It), SizeOf.sizeOf x < N → FitI x → ∀ (cs : List Value) (b o : Nat) (W : World), EIt P x cs W → CellsAt cs b o W → ItAt x b o W := by
  intro N
  induction N with
  | zero => intro x h; exact absurd h (Nat.not_lt_zero _)
  | succ N ih =>
    intro x hN hf cs b o W he hc
    obtain ⟨v, css, rfl, h1, h2, h3, ho, _⟩ := (EIt_iff P x cs W).1 he
    have hf2 := hf.kids
    obtain ⟨a, c, rfl, hr, _⟩ := ho.row (At := ItAt) (fun y hy cs b o he hc => ih y (by
      have h1 := sizeOf_kids x
      have h2 := List.sizeOf_lt_of_mem hy
      omega) (hf2.2 y hy) cs b o W he hc) (by have := hf2.1; omega)
    exact (itAt_iff x b o W).2 ⟨h1, h2, h3, a, c, hc, hr⟩
theorem items_row {P : Nat → Prop} {l : List It} {B : Nat} {v : Value} {css : List (List Value)} {W : World} (ho : OwnE (EIt P) B 96 4 l v css W) (hf : FitIs l) : ∃ a c, v = .slice a l.length c ∧ Row ItAt 4 l a W ∧ l.length ≤ c :=
  ho.row (fun y hy cs b o he hc => EIt_at P _ y (Nat.lt_succ_self _) (hf.2 y hy) cs b o W he hc) (by have := hf.1; omega)
set_option maxHeartbeats 800000 in
set_option maxRecDepth 100000 in
theorem copyItems_all : ∀ (N : Nat) (l : List It), SizeOf.sizeOf l < N → FitIs l → ∀ (a : Option Addr) (c : Nat) (w : World), Row ItAt 4 l a w →
    Calls Try.prog 33 #[.slice a l.length c] w fun e w' => ∃ v css, e = .returned v ∧ OwnE (EIt (fun g => w.heap.size ≤ g)) w.heap.size 96 4 l v css w' ∧ Below w.heap.size w w' := by
  intro N
  induction N with
  | zero => intro l h; exact absurd h (Nat.not_lt_zero _)
  | succ N ih =>
    intro l hN hfit a c w hr
    obtain ⟨i0, hi, hz0, hz1, hz2⟩ := info_parts info96
    have HR := hide hr
    have HN := hide hN
    have IH := hide ih
    have HFT := hide hfit
    have hln := hr.1
    have hfl := hfit.1
    clear hr hN ih hfit
    go_enter Try.func33, Try.ntmps33
    go_wp2_with fail
    go_loopg [3, 4] l.length (fun u v3 v4 wr => ∃ (k : Nat) (css : List (List Value)), Hid (u = l.length - k) ∧ v4 = .int .i64 (k : Int) ∧ Hid (k ≤ l.length ∧ Below w.heap.size w wr ∧ OwnE (EIt (fun g => w.heap.size ≤ g ∧ v3.ownBlock ≠ some g)) w.heap.size 96 4 (l.take k) v3 css wr))
    case atStart => exact ⟨0, [], hide rfl, rfl, hide ⟨Nat.zero_le _, Below.refl _ _, OwnE.nil _ _ _ _⟩⟩
    case round =>
      obtain ⟨k, css, hu, rfl, hh⟩ := hrel
      have hkl := hh.out.1
      by_cases hlt : k < l.length
      · have hlti : (k : Int) < (l.length : Int) := by omega
        obtain ⟨b, o, rfl, hb, hat⟩ := (HR.out.below ItAt.stable hh.out.2.1).get hlt
        have hx := hat k hlt
        have HTK := hide (take_snoc l k hlt)
        have hsz : SizeOf.sizeOf l[k].kids < N := by
          have h1 := sizeOf_kids l[k]
          have h2 := List.sizeOf_lt_of_mem (List.getElem_mem hlt)
          have := HN.out
          omega
        have HFX := hide (HFT.out.2 _ (List.getElem_mem hlt))
        generalize l[k] = x at hx hsz HTK HFX
        clear hat
        obtain ⟨kd, t, n, kids⟩ := x
        obtain ⟨⟨hk1, ht1, hn1⟩, ak, ck, ⟨e0, e1, e2, e3⟩, hrow⟩ := hx.cells
        replace e0 : wr.cell? ⟨b, o + k * 4, none⟩ = some (.int .i64 kd) := e0
        replace e1 : wr.cell? ⟨b, o + k * 4 + 1, none⟩ = some (.string t) := e1
        replace e2 : wr.cell? ⟨b, o + k * 4 + 2, none⟩ = some (.int .i64 n) := e2
        replace e3 : wr.cell? ⟨b, o + k * 4 + 3, none⟩ = some (.slice ak kids.length ck) := e3
        replace hsz : SizeOf.sizeOf kids < N := hsz
        have HK1 := hide (show i64 kd from hk1)
        have HT1 := hide (show short t from ht1)
        have HN1 := hide (show i64 n from hn1)
        have hrow' : Row ItAt 4 kids ak wr := hrow
        have hkl2 := hrow'.1
        have HBA := hide (NB.alloc (Below.refl wr.heap.size wr) (.cells #[.int .i64 kd, .string t, .int .i64 n, .slice ak kids.length ck] 96))
        have HXA := hide (Blk.new wr #[.int .i64 kd, .string t, .int .i64 n, .slice ak kids.length ck] 96)
        have HC := hide (IH.out kids hsz HFX.out.kids ak ck (wr.alloc (.cells #[.int .i64 kd, .string t, .int .i64 n, .slice ak kids.length ck] 96)) (hrow'.below ItAt.stable HBA.out))
        have HH := hide hh.out
        have hbs := hh.out.2.1.size
        have hcl : css.length + 1 ≤ l.length := by rw [hh.out.2.2.len, List.length_take]; omega
        clear hx hrow hrow' hsz hk1 ht1 hn1 hh
        go_upto_region 6 with fail
        obtain ⟨ks, hks⟩ : ∃ ks, wr.heap.size = ks := ⟨_, rfl⟩
        obtain ⟨wa, hwa⟩ : ∃ wa, wr.alloc (.cells #[.int .i64 kd, .string t, .int .i64 n, .slice ak kids.length ck] 96) = wa := ⟨_, rfl⟩
        have HWS := hide (show wa.heap.size = ks + 1 by rw [← hwa, ← hks]; simp)
        rw [hwa] at HBA HXA HC ⊢
        rw [hks] at HXA ⊢
        have HKS := hide hks
        clear hwa hks e0 e1 e2 e3 hb
        have x3 := HXA.out.cell 3
        have xl := HXA.out.lt
        go_wp2_with fail
        refine HC.out.mono ?_
        rintro e w5 ⟨vk, cssk, rfl, hok, hb5⟩
        obtain ⟨a9, c9, hvk, _⟩ := own_shape hok.own
        have HVK := hide hvk
        have HX5 := hide (HXA.out.below hb5)
        have HB5 := hide (below_next HBA.out hb5)
        have HOK := hide hok
        clear x3 xl hok hb5
        subst hvk
        have x3 := HX5.out.cell 3
        have xl := HX5.out.lt
        have xf := HX5.out.free 3
        go_upto_region 7 with fail
        have HX6 := hide (HX5.out.set 3 (.slice a9 cssk.length c9))
        have HB6 := hide (HB5.out.setCell (by have := HKS.out; simp only; omega) (.slice a9 cssk.length c9) : Below wr.heap.size wr (w5.setCell ⟨ks, 3, none⟩ (.slice a9 cssk.length c9)))
        have HO6 := hide (HH.out.2.2.keep (own_below HH.out.2.2.own HB6.out) (fun x cs he => EIt.keep x cs wr _ (fun g c _ hb => hb.below HB6.out) (fun _ _ h => h) he))
        have HE6 := hide (show EIt (fun g => w.heap.size ≤ g ∧ u3.ownBlock ≠ some g) (.mk kd t n kids) [.int .i64 kd, .string t, .int .i64 n, .slice a9 cssk.length c9] (w5.setCell ⟨ks, 3, none⟩ (.slice a9 cssk.length c9)) from by
          have hps : ∀ g, wa.heap.size ≤ g → g ≠ ks := fun g hg => by have := HWS.out; omega
          have hpp : ∀ g, wa.heap.size ≤ g → w.heap.size ≤ g ∧ u3.ownBlock ≠ some g := fun g hg => by
            refine ⟨by have := HWS.out; have := HKS.out; omega, fun e1 => ?_⟩
            have := own_lt HH.out.2.2.own g e1
            have := HWS.out; have := HKS.out; omega
          refine (EIt_iff _ (.mk kd t n kids) _ _).2 ⟨_, cssk, rfl, HK1.out, HT1.out, HN1.out, (HOK.out.base (Nat.zero_le _)).keep (own_base (own_same (B' := 0) HOK.out.own (fun g c hg hb => hb.other (hps g (own_block_ge HOK.out.own g hg)))) (Nat.zero_le _)) (fun x cs he => EIt.keep x cs w5 _ (fun g c hg hb => hb.other (hps g hg)) (fun g _ hg => hpp g hg) he), fun g hg => hpp g (own_block_ge HOK.out.own g hg)⟩)
        clear x3 xl xf HX5 HB5 HOK HC HXA HBA
        generalize w5.setCell ⟨ks, 3, none⟩ (.slice a9 cssk.length c9) = w6 at HX6 HB6 HO6 HE6 ⊢
        have x0 := HX6.out.cell 0
        have x1 := HX6.out.cell 1
        have x2 := HX6.out.cell 2
        have x3 := HX6.out.cell 3
        have xl := HX6.out.lt
        have hb6 := HB6.out.size
        have HPU := hide (fun v' w8 (ho : World.ownsRow w8 w.heap.size 96 4 v' (css.length + 1) (css.flatten ++ [.int .i64 kd, .string t, .int .i64 n, .slice a9 cssk.length c9])) (hg : (w6.alloc (.cells #[.int .i64 kd, .string t, .int .i64 n, .slice a9 cssk.length c9] 96)).grownBy w8 u3.ownBlock) (hat : v'.ownBlock = u3.ownBlock ∨ v'.ownBlock = some (w6.heap.size + 1)) => (show OwnE (EIt (fun g => w.heap.size ≤ g ∧ v'.ownBlock ≠ some g)) w.heap.size 96 4 (l.take k ++ [.mk kd t n kids]) v' (css ++ [[.int .i64 kd, .string t, .int .i64 n, .slice a9 cssk.length c9]]) w8 from
          HO6.out.pushG ho rfl rfl (fun x cs he => EIt.keep x cs w6 w8 (fun g c hp hb => (hb.alloc _).grown hg (fun e => hp.2 e.symm)) (fun g hlt hp => ⟨hp.1, fun e1 => by
            rcases hat with e | e
            · rw [e] at e1; exact hp.2 e1
            · rw [e] at e1; injection e1 with e1; rw [← e1] at hlt; omega⟩) he) HE6.out))
        go_wp2_with (at_builtin; refine wpList_append_own_at _ rfl _ _ 51 rfl w.heap.size 96 i0 _ 4 56 Try.underlying51 hi hz0 hz1 hz2 rfl (by decide) _ _ css.flatten rfl (HO6.out.own.alloc _) ⟨w6.heap.size, 0, none⟩ 1 1 [.int .i64 kd, .string t, .int .i64 n, .slice a9 cssk.length c9] rfl rfl ?d1 ?d2 ?d3 ?d4 ?d5 ?_)
        case d1 => exact cells_at _ _ _ _ rfl
        case d2 => first | (intro y hy; simp at hy; rcases hy with rfl | rfl | rfl | rfl <;> rfl) | rfl
        case d3 => unfold maxLen; omega
        case d4 => omega
        case d5 => simp; omega
        intro v' w8 ho8 hg8 _ hat8
        have HN8 := hide (HPU.out v' w8 ho8 hg8 hat8)
        have HB8 := hide (show Below w.heap.size w w8 from by
          have h1 := (below_next HH.out.2.1 HB6.out).alloc (by have := (below_next HH.out.2.1 HB6.out).size; exact this) (.cells #[.int .i64 kd, .string t, .int .i64 n, .slice a9 cssk.length c9] 96)
          exact h1.grown hg8 h1.size (fun g hg => own_block_ge HO6.out.own g hg))
        clear ho8 hg8 hat8 x0 x1 x2 x3 xl
        go_wp2_with fail
        go_roundg (l.length - (k + 1))
        case measure => rw [hu.out]; omega
        case rel => exact ⟨k + 1, _, hide rfl, by go_num, hide ⟨hlt, HB8.out, by rw [HTK.out]; exact HN8.out⟩⟩
      · have hlti : ¬ (k : Int) < (l.length : Int) := by omega
        have HO := hide hh.out.2.2
        rw [List.take_of_length_le (by omega)] at HO
        go_wp2_with fail
        go_ret
        exact ⟨_, rfl, ⟨css, HO.out.keep HO.out.own (fun x cs he => EIt.keep (P' := fun g => w.heap.size ≤ g) x cs wr wr (fun _ _ _ h => h) (fun g _ h => h.1) he)⟩, hh.out.2.1⟩
end Go.Proofs.Ytalicfpcmcbdbaa
