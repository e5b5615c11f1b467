/- The looks of Check, as a list. -/
import Derived.Test.YtalicfpcmcbdbaaZLook2
import Derived.Test.YtalicfpcmcbdbaaZLook3
import Derived.Test.YtalicfpcmcbdbaaZLook4
import Derived.Test.YtalicfpcmcbdbaaZLook5
import Derived.Test.YtalicfpcmcbdbaaZLook7
import Derived.Test.YtalicfpcmcbdbaaZLook9
import Derived.Test.YtalicfpcmcbdbaaZLookA
import Derived.Test.YtalicfpcmcbdbaaZLookB
import Derived.Test.YtalicfpcmcbdbaaZBox
import Derived.Shelf.GgClosure.Gives
set_option linter.unusedVariables false
set_option linter.unusedSimpArgs false
set_option linter.unnecessarySimpa false
set_option linter.deprecated false
namespace Go.Proofs.Ytalicfpcmcbdbaa
open Go.RowKit

/-- A look: a function, what it holds, and what it answers. -/
structure En where
  g : Nat
  lb : Array Value
  r : Int × ByteArray
def fv (x : En) : Value := .func (.func x.g) #[] x.lb
def FvAt (x : En) (b o : Nat) (W : World) : Prop := W.cell? ⟨b, o, none⟩ = some (.func (.func x.g) #[] x.lb)
theorem FvAt.stable : Stable FvAt := fun _ _ _ _ _ hb hlt h => (hb.cell (p := ⟨_, _, none⟩) hlt).trans h
/-- The first look that finds a fault. -/
def runC : List (Int × ByteArray) → Int × ByteArray
  | [] => okL
  | x :: r => if x.1 = 0 then runC r else x
theorem runC_hit : ∀ (l : List En) (k : Nat) (hk : k < l.length), (∀ j (h : j < l.length), j < k → l[j].r.1 = 0) → l[k].r.1 ≠ 0 → runC (l.map En.r) = l[k].r
  | [], k, hk, _, _ => absurd hk (by simp)
  | x :: xs, 0, hk, _, hp => by
    have hp : x.r.1 ≠ 0 := hp
    rw [List.map_cons, runC, if_neg hp]; rfl
  | x :: xs, k + 1, hk, hf, hp => by
    have h0 : x.r.1 = 0 := hf 0 (by simp) (by omega)
    rw [List.map_cons, runC, if_pos h0]
    exact runC_hit xs k (by simpa using hk) (fun j h hj => by have := hf (j + 1) (by simpa using h) (by omega); simpa using this) (by simpa using hp)
theorem runC_miss : ∀ (l : List En), (∀ j (h : j < l.length), l[j].r.1 = 0) → runC (l.map En.r) = okL
  | [], _ => rfl
  | x :: xs, hf => by
    have h0 : x.r.1 = 0 := hf 0 (by simp)
    rw [List.map_cons, runC, if_pos h0]
    exact runC_miss xs (fun j h => by have := hf (j + 1) (by simpa using h); simpa using this)
/-- A look does what it says. -/
structure En.Ok (bb : Nat) (w : World) (x : En) : Prop where
  e : ∀ args w, (callFunc x.g args).run Try.prog w = .ok (.enter x.g args) w
  c : ∀ W, Below w.heap.size w W → Calls Try.prog x.g (#[.pointer (some ⟨bb, 0, none⟩)] ++ x.lb) W fun e w' => e = .returned (.tuple #[.int .i64 x.r.1, .string x.r.2]) ∧ Below W.heap.size W w'
/-- The looks, but for reject. -/
def looksL (d : Df) (cy rj : Int × ByteArray) : List (Int × ByteArray) := [formL d, mixedL d, endsL d, undefL d, firstG 44 (kindB d) Pd.sort d.prods, consLk d, firstG 46 bracketB Pd.sort d.prods, firstG 2 (longB d) Pd.sort d.prods, firstG 47 nullB Pd.sort d.prods, cy, rj, prioL d, followL d, boxL d]
def lkL (d : Df) (cy rj : Int × ByteArray) (f1 e1 f2 e2 f3 e3 f4 e4 : Nat) : List En :=
  [⟨35, #[], formL d⟩, ⟨36, #[], mixedL d⟩, ⟨37, #[], endsL d⟩, ⟨38, #[], undefL d⟩,
   ⟨69, #[.pointer (some ⟨f1, 0, none⟩), .pointer (some ⟨e1, 0, none⟩)], firstG 44 (kindB d) Pd.sort d.prods⟩, ⟨41, #[], consLk d⟩,
   ⟨69, #[.pointer (some ⟨f2, 0, none⟩), .pointer (some ⟨e2, 0, none⟩)], firstG 46 bracketB Pd.sort d.prods⟩,
   ⟨69, #[.pointer (some ⟨f3, 0, none⟩), .pointer (some ⟨e3, 0, none⟩)], firstG 2 (longB d) Pd.sort d.prods⟩,
   ⟨69, #[.pointer (some ⟨f4, 0, none⟩), .pointer (some ⟨e4, 0, none⟩)], firstG 47 nullB Pd.sort d.prods⟩,
   ⟨45, #[], cy⟩, ⟨46, #[], rj⟩, ⟨47, #[], prioL d⟩, ⟨48, #[], followL d⟩, ⟨49, #[], boxL d⟩]
theorem lkL_r (d : Df) (cy rj : Int × ByteArray) (f1 e1 f2 e2 f3 e3 f4 e4 : Nat) : (lkL d cy rj f1 e1 f2 e2 f3 e3 f4 e4).map En.r = looksL d cy rj := rfl
set_option maxHeartbeats 800000 in
set_option maxRecDepth 100000 in
theorem check_at (d : Df) (a2 : Option Addr) (c2 : Nat) (a3 : Option Addr) (c3 : Nat) (a4 : Option Addr) (c4 : Nat) (a5 : Option Addr) (c5 : Nat) (a6 : Option Addr) (c6 : Nat) (cy rj : Int × ByteArray) (w : World) (hd : RD d ⟨a2, c2, a3, c3, a4, c4, a5, c5, a6, c6⟩ w) (hln : d.prods.length ≤ 100000)
    (hok : ∀ bb as_ cs m n f1 e1 f2 e2 f3 e3 f4 e4 W, Book d a2 c2 a3 c3 a4 c4 a5 c5 a6 c6 as_ cs m n bb W → Blk W f1 #[.func (.func 40) #[] #[]] 75 → Blk W e1 #[.int .i64 44] 32 → Blk W f2 #[.func (.func 42) #[] #[]] 75 → Blk W e2 #[.int .i64 46] 32 → Blk W f3 #[.func (.func 43) #[] #[]] 75 → Blk W e3 #[.int .i64 2] 32 → Blk W f4 #[.func (.func 44) #[] #[]] 75 → Blk W e4 #[.int .i64 47] 32 → ∀ x ∈ lkL d cy rj f1 e1 f2 e2 f3 e3 f4 e4, En.Ok bb W x) :
    Calls Try.prog 14 #[.agg #[.string d.start, .string d.layout, .slice a2 d.prods.length c2, .slice a3 d.chains.length c3, .slice a4 d.follows.length c4, .slice a5 d.rejects.length c5, .slice a6 d.boxes.length c6]] w fun e w' => e = .returned (.tuple #[.int .i64 (runC (looksL d cy rj)).1, .string (runC (looksL d cy rj)).2]) ∧ Below w.heap.size w w' := by
  have HB0 := hide ((Below.refl w.heap.size w).alloc (Nat.le_refl _) (.cells #[.string d.start, .string d.layout, .slice a2 d.prods.length c2, .slice a3 d.chains.length c3, .slice a4 d.follows.length c4, .slice a5 d.rejects.length c5, .slice a6 d.boxes.length c6] 28))
  have HC := hide (open_any d a2 c2 a3 c3 a4 c4 a5 c5 a6 c6 (w.alloc (.cells #[.string d.start, .string d.layout, .slice a2 d.prods.length c2, .slice a3 d.chains.length c3, .slice a4 d.follows.length c4, .slice a5 d.rejects.length c5, .slice a6 d.boxes.length c6] 28)) (hd.below HB0.out) hln)
  have HOK := hide hok
  clear hok hd hln
  go_enter Try.func14, Try.ntmps14
  go_wp2_with fail
  refine HC.out.mono ?_
  rintro e w1 ⟨bb, as_, cs, m, n, rfl, hh⟩
  have HBK := hide hh.out.1
  have HB1 := hide (below_next HB0.out hh.out.2.2.2)
  clear hh
  go_wp2_with fail
  refine (each_any 44 40 w1).mono ?_
  rintro e w2 ⟨f1, e1, rfl, h2⟩
  have H2 := hide h2.out
  clear h2
  go_wp2_with fail
  refine (each_any 46 42 w2).mono ?_
  rintro e w3 ⟨f2, e2, rfl, h3⟩
  have H3 := hide h3.out
  clear h3
  go_wp2_with fail
  refine (each_any 2 43 w3).mono ?_
  rintro e w4 ⟨f3, e3, rfl, h4⟩
  have H4 := hide h4.out
  clear h4
  go_wp2_with fail
  refine (each_any 47 44 w4).mono ?_
  rintro e w5 ⟨f4, e4, rfl, h5⟩
  have H5 := hide h5.out
  clear h5
  have b23 := H3.out.2.2
  have b24 := below_next b23 H4.out.2.2
  have b25 := below_next b24 H5.out.2.2
  have b35 := below_next H4.out.2.2 H5.out.2.2
  have HOK5 := hide (HOK.out bb as_ cs m n f1 e1 f2 e2 f3 e3 f4 e4 w5 (HBK.out.below (below_next H2.out.2.2 b25)) (H2.out.1.below b25) (H2.out.2.1.below b25) (H3.out.1.below b35) (H3.out.2.1.below b35) (H4.out.1.below H5.out.2.2) (H4.out.2.1.below H5.out.2.2) H5.out.1 H5.out.2.1)
  have HB5 := hide (below_next HB1.out (below_next H2.out.2.2 b25))
  clear b23 b24 b25 b35
  have HL := hide (show ((lkL d cy rj f1 e1 f2 e2 f3 e3 f4 e4).map fv).toArray = #[.func (.func 35) #[] #[], .func (.func 36) #[] #[], .func (.func 37) #[] #[], .func (.func 38) #[] #[], .func (.func 69) #[] #[.pointer (some ⟨f1, 0, none⟩), .pointer (some ⟨e1, 0, none⟩)], .func (.func 41) #[] #[], .func (.func 69) #[] #[.pointer (some ⟨f2, 0, none⟩), .pointer (some ⟨e2, 0, none⟩)], .func (.func 69) #[] #[.pointer (some ⟨f3, 0, none⟩), .pointer (some ⟨e3, 0, none⟩)], .func (.func 69) #[] #[.pointer (some ⟨f4, 0, none⟩), .pointer (some ⟨e4, 0, none⟩)], .func (.func 45) #[] #[], .func (.func 46) #[] #[], .func (.func 47) #[] #[], .func (.func 48) #[] #[], .func (.func 49) #[] #[]] from rfl)
  have HLR := hide (lkL_r d cy rj f1 e1 f2 e2 f3 e3 f4 e4)
  have HLN := hide (show (lkL d cy rj f1 e1 f2 e2 f3 e3 f4 e4).length = 14 from rfl)
  go_upto_region 3 with fail
  rw [← HL.out]
  generalize lkL d cy rj f1 e1 f2 e2 f3 e3 f4 e4 = L at HOK5 HLR HLN ⊢
  have HROW := hide (show Row FvAt 1 L (some ⟨w5.heap.size, 0, none⟩) (w5.alloc (.cells (L.map fv).toArray 73)) from ⟨by rw [HLN.out]; decide, fun _ => ⟨_, 0, rfl, by simp, fun i hi => by
    have := cells_at w5 (L.map fv) 73 w5.heap.size rfl i (fv L[i]) (by rw [List.getElem?_map, List.getElem?_eq_getElem hi]; rfl)
    rw [Addr.add_lit] at this
    rw [Nat.mul_one]
    exact this⟩⟩)
  have HBN := hide ((Below.refl w5.heap.size w5).alloc (Nat.le_refl _) (.cells (L.map fv).toArray 73))
  obtain ⟨w6, h6⟩ : ∃ w6, w5.alloc (.cells (L.map fv).toArray 73) = w6 := ⟨_, rfl⟩
  obtain ⟨gb, hgb⟩ : ∃ gb, w5.heap.size = gb := ⟨_, rfl⟩
  rw [h6, hgb] at HROW
  rw [h6] at HBN
  rw [h6, hgb]
  clear h6 hgb HL
  have HB6 := hide (below_next HB5.out HBN.out)
  go_wp2_with fail
  go_loopg [19] 14 (fun u v19 wr => ∃ k : Nat, Hid (u = 14 - k) ∧ v19 = .int .i64 (k : Int) ∧ Hid (k ≤ 14 ∧ Below w6.heap.size w6 wr ∧ ∀ j (h : j < L.length), j < k → L[j].r.1 = 0))
  case atStart => exact ⟨0, hide rfl, rfl, hide ⟨Nat.zero_le _, Below.refl _ _, fun j _ h => by omega⟩⟩
  case round =>
    obtain ⟨k, hu, rfl, hh⟩ := hrel
    have hkl := hh.out.1
    by_cases hlt : k < 14
    · have hlti : (k : Int) < 14 := by omega
      have hlL : k < L.length := by rw [HLN.out]; exact hlt
      obtain ⟨b, o, ebo, hb, hat⟩ := (HROW.out.below FvAt.stable hh.out.2.1).get hlL
      obtain ⟨rfl, rfl⟩ : gb = b ∧ 0 = o := by injection ebo with e; injection e with e1 e2; exact ⟨e1, e2⟩
      have hx := hat k hlL
      rw [Nat.mul_one, Nat.zero_add] at hx
      have HNX := hide (fun (h : L[k].r.1 = 0) => (show ∀ j (h : j < L.length), j < k + 1 → L[j].r.1 = 0 from fun j hj hjk => by
        by_cases e : j = k
        · subst e; exact h
        · exact hh.out.2.2 j hj (by omega)))
      have HHI := hide (fun (h : L[k].r.1 ≠ 0) => runC_hit L k hlL hh.out.2.2 h)
      have HX := hide (HOK5.out L[k] (List.getElem_mem hlL))
      generalize L[k] = x at hx HNX HHI HX
      clear hat ebo
      obtain ⟨g, lb, rc, rn⟩ := x
      have hfv : wr.cell? ⟨gb, k, none⟩ = some (.func (.func g) #[] lb) := hx
      have eg : ∀ args w, (callFunc g args).run Try.prog w = .ok (.enter g args) w := HX.out.e
      have HC2 := hide (HX.out.c wr (below_next HBN.out hh.out.2.1))
      clear hx
      by_cases h0 : rc = 0
      · have HN := hide (HNX.out h0)
        subst h0
        go_wp2_with (go_at_fn g; refine HC2.out.mono ?_; rintro e w' ⟨rfl, hb'⟩)
        go_roundg (14 - (k + 1))
        case measure => rw [hu.out]; omega
        case rel => exact ⟨k + 1, hide rfl, by go_num, hide ⟨hlt, below_next hh.out.2.1 hb', HN.out⟩⟩
      · have n0 : (rc == 0) = false := by simpa using h0
        have n1 : (rc != 0) = true := by simpa using h0
        have HF := hide (show runC (looksL d cy rj) = (rc, rn) by rw [← HLR.out]; exact HHI.out h0)
        go_wp2_with (go_at_fn g; refine HC2.out.mono ?_; rintro e w' ⟨rfl, hb'⟩)
        go_ret2
        exact ⟨by rw [HF.out]; rfl, below_next HB6.out (below_next hh.out.2.1 hb')⟩
    · have hlti : ¬ (k : Int) < 14 := by omega
      have HF := hide (show runC (looksL d cy rj) = okL by rw [← HLR.out]; exact runC_miss L (fun j h => hh.out.2.2 j h (by have := HLN.out; omega)))
      go_wp2_with fail
      go_ret2
      exact ⟨by rw [HF.out]; rfl, below_next HB6.out hh.out.2.1⟩
end Go.Proofs.Ytalicfpcmcbdbaa
