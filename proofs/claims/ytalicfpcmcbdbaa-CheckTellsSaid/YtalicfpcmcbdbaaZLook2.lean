/- The walks of form and mixed. The walks of each and what it makes. -/
import Derived.Test.YtalicfpcmcbdbaaZBook
import Derived.Test.YtalicfpcmcbdbaaZRight
import Derived.Shelf.GgClosure.Gives
set_option linter.unusedVariables false
set_option linter.unusedSimpArgs false
set_option linter.unnecessarySimpa false
set_option linter.deprecated false
namespace Go.Proofs.Ytalicfpcmcbdbaa
open Go.RowKit

/-- What a look tells: the error and the name; 0: nothing is wrong. -/
def okL : Int × ByteArray := (0, emptyB)
def formL (d : Df) : Int × ByteArray := if rightDfB d = true then okL else (3, emptyB)
set_option maxHeartbeats 4000000 in
set_option maxRecDepth 100000 in
theorem form_any (d : Df) (a2 : Option Addr) (c2 : Nat) (a3 : Option Addr) (c3 : Nat) (a4 : Option Addr) (c4 : Nat) (a5 : Option Addr) (c5 : Nat) (a6 : Option Addr) (c6 : Nat) (as_ : Option Addr) (cs m n : Nat) (bb : Nat) (w : World) (hbk : Book d a2 c2 a3 c3 a4 c4 a5 c5 a6 c6 as_ cs m n bb w) : Calls Try.prog 35 #[.pointer (some ⟨bb, 0, none⟩)] w fun e w' => e = .returned (.tuple #[.int .i64 ((formL d).1), .string ((formL d).2)]) ∧ Below w.heap.size w w' := by
  have bk0 := hbk.bk.cell 0
  have bk1 := hbk.bk.cell 1
  have bk2 := hbk.bk.cell 2
  have bk3 := hbk.bk.cell 3
  have bk4 := hbk.bk.cell 4
  have bk5 := hbk.bk.cell 5
  have bk6 := hbk.bk.cell 6
  have bk7 := hbk.bk.cell 7
  have bk8 := hbk.bk.cell 8
  have bkl := hbk.bk.lt
  have HBK := hide hbk
  clear hbk
  have HR := hide (Right_any d ⟨a2, c2, a3, c3, a4, c4, a5, c5, a6, c6⟩ w HBK.out.rd)
  cases hr : rightDfB d with
  | true =>
    rw [hr] at HR
    have HF := hide (show formL d = okL by unfold formL; rw [if_pos hr])
    clear hr
    go_enter Try.func35, Try.ntmps35
    go_wp2_with (go_at_call 68; refine HR.out.mono ?_; rintro e w' ⟨rfl, hb⟩)
    go_ret2
    exact ⟨by rw [HF.out]; rfl, hb⟩
  | false =>
    rw [hr] at HR
    have HF := hide (show formL d = (3, emptyB) by unfold formL; rw [if_neg (by rw [hr]; decide)])
    clear hr
    go_enter Try.func35, Try.ntmps35
    go_wp2_with (go_at_call 68; refine HR.out.mono ?_; rintro e w' ⟨rfl, hb⟩)
    go_ret2
    exact ⟨by rw [HF.out]; rfl, hb⟩
/-- The first of a list at which p holds, as a look tells it. -/
def firstL (c : Int) (p : ByteArray → Bool) : List ByteArray → Int × ByteArray
  | [] => okL
  | s :: r => if p s = true then (c, s) else firstL c p r
theorem firstL_hit (c : Int) (p : ByteArray → Bool) : ∀ (l : List ByteArray) (k : Nat) (hk : k < l.length), (∀ j (h : j < l.length), j < k → p l[j] = false) → p l[k] = true → firstL c p l = (c, l[k])
  | [], k, hk, _, _ => absurd hk (by simp)
  | x :: xs, 0, hk, _, hp => by
    have hp : p x = true := hp
    rw [firstL, if_pos hp]; rfl
  | x :: xs, k + 1, hk, hf, hp => by
    have h0 : p x = false := hf 0 (by simp) (by omega)
    rw [firstL, if_neg (by rw [h0]; decide)]
    exact firstL_hit c p xs k (by simpa using hk) (fun j h hj => by have := hf (j + 1) (by simpa using h) (by omega); simpa using this) (by simpa using hp)
theorem firstL_miss (c : Int) (p : ByteArray → Bool) : ∀ (l : List ByteArray), (∀ j (h : j < l.length), p l[j] = false) → firstL c p l = okL
  | [], _ => rfl
  | x :: xs, hf => by
    have h0 : p x = false := hf 0 (by simp)
    rw [firstL, if_neg (by rw [h0]; decide)]
    exact firstL_miss c p xs (fun j h => by have := hf (j + 1) (by simpa using h); simpa using this)
theorem none_next {α : Type} {f : α → Bool} {l : List α} {k : Nat} (h : ∀ j (h : j < l.length), j < k → f l[j] = false) {x : α} (hk : ∀ (hk : k < l.length), l[k] = x) (hx : f x = false) : ∀ j (h : j < l.length), j < k + 1 → f l[j] = false := by
  intro j hj hjk
  by_cases e : j = k
  · subst e; rw [hk hj]; exact hx
  · exact h j hj (by omega)
def mixedL (d : Df) : Int × ByteArray := firstL 42 (fun s => decide (lexOf d.prods s = 3)) (sortsL d.prods)
set_option maxHeartbeats 4000000 in
set_option maxRecDepth 100000 in
theorem mixed_any (d : Df) (a2 : Option Addr) (c2 : Nat) (a3 : Option Addr) (c3 : Nat) (a4 : Option Addr) (c4 : Nat) (a5 : Option Addr) (c5 : Nat) (a6 : Option Addr) (c6 : Nat) (as_ : Option Addr) (cs m n : Nat) (bb : Nat) (w : World) (hbk : Book d a2 c2 a3 c3 a4 c4 a5 c5 a6 c6 as_ cs m n bb w) : Calls Try.prog 36 #[.pointer (some ⟨bb, 0, none⟩)] w fun e w' => e = .returned (.tuple #[.int .i64 ((mixedL d).1), .string ((mixedL d).2)]) ∧ Below w.heap.size w w' := by
  have bk0 := hbk.bk.cell 0
  have bk1 := hbk.bk.cell 1
  have bk2 := hbk.bk.cell 2
  have bk3 := hbk.bk.cell 3
  have bk4 := hbk.bk.cell 4
  have bk5 := hbk.bk.cell 5
  have bk6 := hbk.bk.cell 6
  have bk7 := hbk.bk.cell 7
  have bk8 := hbk.bk.cell 8
  have bkl := hbk.bk.lt
  have HBK := hide hbk
  clear hbk
  have hln := HBK.out.so.1
  go_enter Try.func36, Try.ntmps36
  go_wp2_with fail
  go_loopg [11] (sortsL d.prods).length (fun u v11 wr => ∃ k : Nat, Hid (u = (sortsL d.prods).length - k) ∧ v11 = .int .i64 (k : Int) ∧ Hid (k ≤ (sortsL d.prods).length ∧ ∀ j (h : j < (sortsL d.prods).length), j < k → decide (lexOf d.prods (sortsL d.prods)[j] = 3) = false) ∧ w = wr)
  case atStart => exact ⟨0, hide rfl, rfl, hide ⟨Nat.zero_le _, fun j _ h => by omega⟩, rfl⟩
  case round =>
    obtain ⟨k, hu, rfl, hh, rfl⟩ := hrel
    have hkl := hh.out.1
    by_cases hlt : k < (sortsL d.prods).length
    · have hlti : (k : Int) < ((sortsL d.prods).length : Int) := by omega
      obtain ⟨b, o, rfl, hb, hat⟩ := HBK.out.so.get hlt
      have hx := hat k hlt
      rw [Nat.mul_one] at hx
      have HNX := hide (fun (h : decide (lexOf d.prods (sortsL d.prods)[k] = 3) = false) => none_next (f := fun s => decide (lexOf d.prods s = 3)) (l := sortsL d.prods) (k := k) hh.out.2 (fun _ => rfl) h)
      have HHI := hide (fun (h : decide (lexOf d.prods (sortsL d.prods)[k] = 3) = true) => firstL_hit 42 (fun s => decide (lexOf d.prods s = 3)) (sortsL d.prods) k hlt hh.out.2 h)
      generalize (sortsL d.prods)[k] = s at hx HNX HHI
      clear hat
      obtain ⟨hsh, f0⟩ := hx
      have hlk := HBK.out.mp.look s hsh
      obtain ⟨n0, hn0⟩ : ∃ n, lexOf d.prods s = n := ⟨_, rfl⟩
      rw [hn0] at hlk HNX HHI
      clear hn0
      by_cases h3 : n0 = 3
      · subst h3
        have HF := hide (HHI.out rfl)
        clear HHI HNX
        go_wp2_with fail
        go_ret2
        exact ⟨by show _ = Ending.returned (.tuple #[.int .i64 (mixedL d).1, .string (mixedL d).2]); unfold mixedL; rw [HF.out]; rfl, Below.refl _ _⟩
      · have hn3 : (n0 == 3) = false := by simpa using h3
        have HN := hide (HNX.out (by simpa using h3))
        clear h3 HHI HNX
        go_wp2_with fail
        go_roundg ((sortsL d.prods).length - (k + 1))
        case measure => rw [hu.out]; omega
        case rel => exact ⟨k + 1, hide rfl, by go_num, hide ⟨hlt, HN.out⟩, rfl⟩
    · have hlti : ¬ (k : Int) < ((sortsL d.prods).length : Int) := by omega
      have HF := hide (firstL_miss 42 (fun s => decide (lexOf d.prods s = 3)) (sortsL d.prods) (fun j h => hh.out.2 j h (by omega)))
      go_wp2_with fail
      go_ret2
      exact ⟨by show _ = Ending.returned (.tuple #[.int .i64 (mixedL d).1, .string (mixedL d).2]); unfold mixedL; rw [HF.out]; rfl, Below.refl _ _⟩
end Go.Proofs.Ytalicfpcmcbdbaa

set_option linter.unusedVariables false
set_option linter.unusedSimpArgs false
set_option linter.unnecessarySimpa false
set_option linter.deprecated false
namespace Go.Proofs.Ytalicfpcmcbdbaa
open Go.RowKit

/-- The first of a list at which p holds, as a look tells it. -/
def firstG {α : Type} (c : Int) (p : α → Bool) (nm : α → ByteArray) : List α → Int × ByteArray
  | [] => okL
  | s :: r => if p s = true then (c, nm s) else firstG c p nm r
theorem firstG_hit {α : Type} (c : Int) (p : α → Bool) (nm : α → ByteArray) : ∀ (l : List α) (k : Nat) (hk : k < l.length), (∀ j (h : j < l.length), j < k → p l[j] = false) → p l[k] = true → firstG c p nm l = (c, nm l[k])
  | [], k, hk, _, _ => absurd hk (by simp)
  | x :: xs, 0, hk, _, hp => by
    have hp : p x = true := hp
    rw [firstG, if_pos hp]; rfl
  | x :: xs, k + 1, hk, hf, hp => by
    have h0 : p x = false := hf 0 (by simp) (by omega)
    rw [firstG, if_neg (by rw [h0]; decide)]
    exact firstG_hit c p nm xs k (by simpa using hk) (fun j h hj => by have := hf (j + 1) (by simpa using h) (by omega); simpa using this) (by simpa using hp)
theorem firstG_miss {α : Type} (c : Int) (p : α → Bool) (nm : α → ByteArray) : ∀ (l : List α), (∀ j (h : j < l.length), p l[j] = false) → firstG c p nm l = okL
  | [], _ => rfl
  | x :: xs, hf => by
    have h0 : p x = false := hf 0 (by simp)
    rw [firstG, if_neg (by rw [h0]; decide)]
    exact firstG_miss c p nm xs (fun j h => by have := hf (j + 1) (by simpa using h); simpa using this)
set_option maxHeartbeats 4000000 in
set_option maxRecDepth 100000 in
theorem each1_at (d : Df) (a2 : Option Addr) (c2 : Nat) (a3 : Option Addr) (c3 : Nat) (a4 : Option Addr) (c4 : Nat) (a5 : Option Addr) (c5 : Nat) (a6 : Option Addr) (c6 : Nat) (as_ : Option Addr) (cs m n : Nat) (bb : Nat) (kf ke g : Nat) (code : Int) (bad : Pd → Bool) (eg : ∀ args w, (callFunc g args).run Try.prog w = .ok (.enter g args) w) (w : World) (hbk : Book d a2 c2 a3 c3 a4 c4 a5 c5 a6 c6 as_ cs m n bb w) (hkf : Blk w kf #[.func (.func g) #[] #[]] 75) (hke : Blk w ke #[.int .i64 code] 32)
    (hst : ∀ W x ap cp, x ∈ d.prods → x.ok → Book d a2 c2 a3 c3 a4 c4 a5 c5 a6 c6 as_ cs m n bb W → Row SyAt 8 x.syms ap W → Calls Try.prog g #[.pointer (some ⟨bb, 0, none⟩), .agg #[.bool x.lex, .string x.sort, .string x.cons, .bool x.bracket, .slice ap x.syms.length cp]] W fun e w' => e = .returned (.bool (bad x)) ∧ Below W.heap.size W w') :
    Calls Try.prog 69 #[.pointer (some ⟨bb, 0, none⟩), .pointer (some ⟨kf, 0, none⟩), .pointer (some ⟨ke, 0, none⟩)] w fun e w' => e = .returned (.tuple #[.int .i64 ((firstG code bad Pd.sort d.prods).1), .string ((firstG code bad Pd.sort d.prods).2)]) ∧ Below w.heap.size w w' := by
  have hln := hbk.rd.p.1
  have bk0 := hbk.bk.cell 0
  have bk1 := hbk.bk.cell 1
  have bk2 := hbk.bk.cell 2
  have bk3 := hbk.bk.cell 3
  have bk4 := hbk.bk.cell 4
  have bk5 := hbk.bk.cell 5
  have bk6 := hbk.bk.cell 6
  have bk7 := hbk.bk.cell 7
  have bk8 := hbk.bk.cell 8
  have bkl := hbk.bk.lt
  have HBK := hide hbk
  clear hbk
  have HKF := hide hkf
  have HKE := hide hke
  have HST := hide hst
  obtain ⟨res, hres⟩ : ∃ r, firstG code bad Pd.sort d.prods = r := ⟨_, rfl⟩
  have HRES := hide hres
  rw [hres]
  clear hkf hke hst hres
  go_enter Try.func69, Try.ntmps69
  go_wp2_with fail
  clear bk0 bk1 bk2 bk3 bk4 bk5 bk6 bk7 bk8 bkl
  go_loopg [14] d.prods.length (fun u v14 wr => ∃ k : Nat, Hid (u = d.prods.length - k) ∧ v14 = .int .i64 (k : Int) ∧ Hid (k ≤ d.prods.length ∧ Below w.heap.size w wr ∧ ∀ j (h : j < d.prods.length), j < k → bad d.prods[j] = false))
  case atStart => exact ⟨0, hide rfl, rfl, hide ⟨Nat.zero_le _, Below.refl _ _, fun j _ h => by omega⟩⟩
  case round =>
    obtain ⟨k, hu, rfl, hh⟩ := hrel
    have hkl := hh.out.1
    by_cases hlt : k < d.prods.length
    · have hlti : (k : Int) < (d.prods.length : Int) := by omega
      have hg2 : Row PdAt 5 d.prods a2 wr := (HBK.out.below hh.out.2.1).rd.p
      obtain ⟨b, o, rfl, hb, hat⟩ := hg2.get hlt
      have hx := hat k hlt
      have HNX := hide (fun (h : bad d.prods[k] = false) => none_next (f := bad) (l := d.prods) (k := k) hh.out.2.2 (fun _ => rfl) h)
      have HHI := hide (fun (h : bad d.prods[k] = true) => firstG_hit code bad Pd.sort d.prods k hlt hh.out.2.2 h)
      have HME := hide (List.getElem_mem hlt)
      generalize d.prods[k] = x at hx HNX HHI HME
      clear hat
      obtain ⟨ap, cp, ⟨e0, e1, e2, e3, e4⟩, hrow⟩ := hx.cells
      have HBW := hide ((Below.refl wr.heap.size wr).alloc (Nat.le_refl _) (.cells #[.bool x.lex, .string x.sort, .string x.cons, .bool x.bracket, .slice ap x.syms.length cp] 38))
      have HXN := hide (Blk.new wr #[.bool x.lex, .string x.sort, .string x.cons, .bool x.bracket, .slice ap x.syms.length cp] 38)
      have HC := hide (HST.out (wr.alloc (.cells #[.bool x.lex, .string x.sort, .string x.cons, .bool x.bracket, .slice ap x.syms.length cp] 38)) x ap cp HME.out hx.1 ((HBK.out.below hh.out.2.1).below HBW.out) (hrow.below SyAt.stable HBW.out))
      have kf0 := (HKF.out.below hh.out.2.1).cell 0
      have kfl := (HKF.out.below hh.out.2.1).lt
      have HB2 := hide (below_next hh.out.2.1 HBW.out)
      clear hx hrow
      cases hq : bad x with
      | false =>
        rw [hq] at HC
        have HN := hide (HNX.out hq)
        clear hq HHI HNX
        go_wp2_with (first | (go_at_fn g; refine HC.out.mono ?_; rintro e w' ⟨rfl, hb'⟩))
        go_roundg (d.prods.length - (k + 1))
        case measure => rw [hu.out]; omega
        case rel => exact ⟨k + 1, hide rfl, by go_num, hide ⟨hlt, below_next HB2.out hb', HN.out⟩⟩
      | true =>
        rw [hq] at HC
        have HF := hide (HHI.out hq)
        clear hq HHI HNX
        go_wp2_with fail
        refine HC.out.mono ?_
        rintro e w5 ⟨rfl, hb5⟩
        have ke0 := (HKE.out.below (below_next HB2.out hb5)).cell 0
        have kel := (HKE.out.below (below_next HB2.out hb5)).lt
        have hx5 := HXN.out.below hb5
        have x1 := hx5.cell 1
        have xl := hx5.lt
        have HB5 := hide (below_next HB2.out hb5)
        clear e0 e1 e2 e3 e4 kf0 kfl hb hx5 hb5
        go_upto_region 5 with fail
        go_quiet (fail)
        go_wp2_with fail
        go_ret2
        exact ⟨by rw [← HRES.out, HF.out]; rfl, HB5.out.trans ⟨rfl, rfl, rfl, Nat.le_refl _, fun _ _ => rfl⟩⟩
    · have hlti : ¬ (k : Int) < (d.prods.length : Int) := by omega
      have HF := hide (firstG_miss code bad Pd.sort d.prods (fun j h => hh.out.2.2 j h (by omega)))
      go_wp2_with fail
      go_ret2
      exact ⟨by rw [← HRES.out, HF.out]; rfl, hh.out.2.1⟩
theorem each_any (code : Int) (g : Nat) (w : World) : Calls Try.prog 39 #[.int .i64 code, .func (.func g) #[] #[]] w fun e w' => ∃ kf ke, e = .returned (.func (.func 69) #[] #[.pointer (some ⟨kf, 0, none⟩), .pointer (some ⟨ke, 0, none⟩)]) ∧ Hid (Blk w' kf #[.func (.func g) #[] #[]] 75 ∧ Blk w' ke #[.int .i64 code] 32 ∧ Below w.heap.size w w') := by
  have HK := hide (show Blk ((w.alloc (.cells #[.int .i64 code] 32)).alloc (.cells #[.func (.func g) #[] #[]] 75)) w.heap.size #[.int .i64 code] 32 from (Blk.new w _ _).alloc _)
  have HK2 := hide (show Blk ((w.alloc (.cells #[.int .i64 code] 32)).alloc (.cells #[.func (.func g) #[] #[]] 75)) (w.heap.size + 1) #[.func (.func g) #[] #[]] 75 from NB.new1)
  have HB := hide (NB.alloc (NB.alloc (Below.refl w.heap.size w) (.cells #[.int .i64 code] 32)) (.cells #[.func (.func g) #[] #[]] 75))
  go_enter Try.func39, Try.ntmps39
  go_wp2_with fail
  go_ret
  exact ⟨_, _, rfl, hide ⟨HK2.out, HK.out, HB.out⟩⟩
end Go.Proofs.Ytalicfpcmcbdbaa
