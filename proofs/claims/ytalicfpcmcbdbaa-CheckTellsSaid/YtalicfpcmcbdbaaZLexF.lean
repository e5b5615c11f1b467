/- The walks of Lexical and of what it calls. -/
import Derived.Test.YtalicfpcmcbdbaaZBook
import Derived.Test.YtalicfpcmcbdbaaZRProd
import Derived.Test.YtalicfpcmcbdbaaZNames
import Derived.Lib.SliceRun
import Derived.Laws.IdiomCopy
set_option linter.unusedVariables false
set_option linter.unusedSimpArgs false
set_option linter.unnecessarySimpa false
set_option linter.deprecated false
namespace Go.Proofs.Ytalicfpcmcbdbaa
open Go.RowKit

theorem grown_cell (w : World) (g o : Nat) (u : Value) : w.grownBy (w.setCell ⟨g, o, none⟩ u) (some g) :=
  ⟨rfl, rfl, rfl, by simp [World.setCell], fun k _ hk => Below.heap_setCell _ _ _ _ (fun e => hk (by simp [e]))⟩
theorem grown_trans {a b c : World} {g : Nat} (h : a.grownBy b (some g)) (k : b.grownBy c (some g)) : a.grownBy c (some g) := h.andThen k (fun j hj => Or.inr hj)
theorem grown_refl (a : World) (g : Nat) : a.grownBy a (some g) := ⟨rfl, rfl, rfl, Nat.le_refl _, fun _ _ _ => rfl⟩
theorem setCells_blk (g : Nat) (t : TypeId) : ∀ (vs : List Value) (o : Nat) (W : World) (c : Array Value), Blk W g c t → ∃ c', Blk (W.setCells g o vs) g c' t ∧ c'.size = c.size ∧ (∀ x, x < o → c'[x]? = c[x]?) ∧ W.grownBy (W.setCells g o vs) (some g)
  | [], o, W, c, h => ⟨c, h, rfl, fun _ _ => rfl, grown_refl _ _⟩
  | v :: vs, o, W, c, h => by
    obtain ⟨c', h1, h2, h3, h4⟩ := setCells_blk g t vs (o + 1) (W.setCell ⟨g, o, none⟩ v) (c.setIfInBounds o v) (h.set o v)
    refine ⟨c', h1, by rw [h2]; simp, fun x hx => ?_, grown_trans (grown_cell W g o v) h4⟩
    rw [h3 x (by omega), Array.getElem?_setIfInBounds, if_neg (by omega)]
set_option maxHeartbeats 800000 in
set_option maxRecDepth 100000 in
theorem lexical_at (ps : List Pd) (c0 c1 c2' c3' c4' c5' c6' c7' : Value) (m n : Nat) (bb : Nat) (s : ByteArray) (w : World) (hb : Blk w bb #[c0, c1, c2', c3', c4', c5', c6', c7', .map (some m)] 87) (hm : MapF w m n (lexOf ps)) (hs : short s) : Calls Try.prog 63 #[.pointer (some ⟨bb, 0, none⟩), .string s] w fun e w' => e = .returned (.bool (isLex ps s true)) ∧ w = w' := by
  have b8 := hb.cell 8
  have bl := hb.lt
  obtain ⟨n0, hn0⟩ : ∃ n0, lexOf ps s = n0 := ⟨_, rfl⟩
  have hlk := hm.look s hs
  rw [hn0] at hlk
  have hc : (n0 = 0 ∧ isLex ps s true = false) ∨ (n0 = 1 ∧ isLex ps s true = true) ∨ (n0 = 2 ∧ isLex ps s true = false) ∨ (n0 = 3 ∧ isLex ps s true = true) := by
    rw [← hn0]
    unfold lexOf
    cases isLex ps s true <;> cases isLex ps s false <;> simp
  clear hb hm hs hn0
  rcases hc with ⟨rfl, hl⟩ | ⟨rfl, hl⟩ | ⟨rfl, hl⟩ | ⟨rfl, hl⟩
  all_goals
    have HL := hide hl
    clear hl
    go_enter Try.func63, Try.ntmps63
    go_wp2_with fail
    go_ret
    exact ⟨by rw [HL.out]; rfl, rfl⟩
set_option maxHeartbeats 800000 in
set_option maxRecDepth 100000 in
theorem notLex_at (ps : List Pd) (c0 c1 c2' c3' c4' c5' c6' c7' : Value) (m n : Nat) (bb kb : Nat) (s : ByteArray) (w : World) (hk : Blk w kb #[.pointer (some ⟨bb, 0, none⟩)] 70) (hb : Blk w bb #[c0, c1, c2', c3', c4', c5', c6', c7', .map (some m)] 87) (hm : MapF w m n (lexOf ps)) (hs : short s) : Calls Try.prog 62 #[.string s, .pointer (some ⟨kb, 0, none⟩)] w fun e w' => e = .returned (.bool (!isLex ps s true)) ∧ w = w' := by
  have HC := hide (lexical_at ps c0 c1 c2' c3' c4' c5' c6' c7' m n bb s w hb hm hs)
  have k0 := hk.cell 0
  have kl := hk.lt
  clear hk hb hm hs
  cases hl : isLex ps s true
  all_goals
    rw [hl] at HC
    clear hl
    go_enter Try.func62, Try.ntmps62
    go_wp2_with fail
    refine HC.out.mono ?_
    rintro e w2 ⟨rfl, rfl⟩
    go_wp2_with fail
    go_ret
    exact ⟨rfl, rfl⟩
set_option maxHeartbeats 800000 in
set_option maxRecDepth 100000 in
theorem idxStr_any (g : Nat) (lb : Array Value) (eg : ∀ args w, (callFunc g args).run Try.prog w = .ok (.enter g args) w) (p : ByteArray → Bool) (l : List ByteArray) (a : Option Addr) (c : Nat) (w : World) (hr : Row StrAt 1 l a w)
    (hp : ∀ s, s ∈ l → Calls Try.prog g (#[.string s] ++ lb) w fun e w' => e = .returned (.bool (p s)) ∧ w = w') :
    Calls Try.prog 82 #[.slice a l.length c, .func (.func g) #[] lb] w fun e w' => e = .returned (.int .i64 (fIdx p l 0)) ∧ w = w' := by
  have HP := hide hp
  have HR := hide hr
  have hln : l.length ≤ 140737488351232 := hr.1
  clear hp hr
  go_enter Try.func82, Try.ntmps82
  go_wp2_with fail
  go_loopg [5, 8] l.length (fun u v5 v8 wr => ∃ k : Nat, Hid (u = l.length - k) ∧ v8 = .int .i64 (k : Int) ∧ Hid (k ≤ l.length ∧ w = wr ∧ ∀ j (h : j < l.length), j < k → p l[j] = false))
  case atStart => exact ⟨0, hide rfl, rfl, hide ⟨Nat.zero_le _, rfl, fun _ _ h => absurd h (Nat.not_lt_zero _)⟩⟩
  case round =>
    obtain ⟨k, hu, rfl, hh⟩ := hrel
    have hkl := hh.out.1
    obtain rfl := hh.out.2.1
    by_cases hlt : k < l.length
    · have hlti : (k : Int) < (l.length : Int) := by omega
      obtain ⟨b, o, rfl, hb, hat⟩ := HR.out.get hlt
      have hx := hat k hlt
      rw [Nat.mul_one] at hx
      have HC := hide (HP.out l[k] (List.getElem_mem hlt))
      obtain ⟨x, hxe⟩ : ∃ x, l[k] = x := ⟨_, rfl⟩
      have HX := hide hxe
      rw [hxe] at hx HC
      clear hxe hat
      obtain ⟨hsh, f0⟩ := hx
      cases hq : p x with
      | true =>
        rw [hq] at HC
        have HQ := hide hq
        clear hq
        go_wp2_with (go_at_fn g; refine HC.out.mono ?_; rintro e w' ⟨rfl, rfl⟩)
        go_ret
        refine ⟨ret_int ?_, rfl⟩
        rw [fIdx_hit p l 0 k hlt hh.out.2.2 (by rw [HX.out]; exact HQ.out)]
        omega
      | false =>
        rw [hq] at HC
        have HQ := hide hq
        clear hq
        go_wp2_with (go_at_fn g; refine HC.out.mono ?_; rintro e w' ⟨rfl, rfl⟩)
        go_roundg (l.length - (k + 1))
        case measure => rw [hu.out]; omega
        case rel =>
          refine ⟨k + 1, hide rfl, by go_num, hide ⟨hlt, rfl, fun j h hj => ?_⟩⟩
          by_cases e : j = k
          · subst e
            rw [HX.out]
            exact HQ.out
          · exact hh.out.2.2 j h (by omega)
    · have hlti : ¬ (k : Int) < (l.length : Int) := by omega
      go_wp2_with fail
      go_ret
      refine ⟨ret_int ?_, rfl⟩
      rw [fIdx_miss p l 0 (fun j h => hh.out.2.2 j h (by omega))]
theorem fIdx_spec {α : Type} (p : α → Bool) : ∀ (l : List α) (s : Nat), (fIdx p l s = -1 ∧ ∀ j (h : j < l.length), p l[j] = false) ∨ ∃ k, ∃ hk : k < l.length, fIdx p l s = ((s + k : Nat) : Int) ∧ p l[k] = true ∧ ∀ j (h : j < l.length), j < k → p l[j] = false
  | [], s => Or.inl ⟨rfl, fun j h => absurd h (by simp)⟩
  | x :: xs, s => by
    rw [fIdx]
    by_cases h : p x = true
    · rw [if_pos h]
      exact Or.inr ⟨0, by simp, by simp, h, fun j _ hj => absurd hj (by omega)⟩
    · rw [if_neg h]
      have h0 : p x = false := by simpa using h
      rcases fIdx_spec p xs (s + 1) with ⟨h1, h2⟩ | ⟨k, hk, h1, h2, h3⟩
      · refine Or.inl ⟨h1, fun j hj => ?_⟩
        cases j with
        | zero => exact h0
        | succ j => exact h2 j (by simpa using hj)
      · refine Or.inr ⟨k + 1, by simpa using hk, by rw [h1]; congr 1; omega, by simpa using h2, fun j hj hjk => ?_⟩
        cases j with
        | zero => exact h0
        | succ j => exact h3 j (by simpa using hj) (by omega)
/-- What is under way in DeleteFunc. -/
structure DelW (l : List ByteArray) (p : ByteArray → Bool) (g cap : Nat) (w : World) (i j : Nat) (c : Array Value) (wr : World) : Prop where
  jl : j ≤ l.length
  ij : i + 1 ≤ j
  gr : w.grownBy wr (some g)
  b : Blk wr g c 9
  sz : c.size = cap
  il : ((l.take j).filter (fun s => !p s)).length = i
  lo : c.toList.take i = strsC ((l.take j).filter (fun s => !p s))
  hi : ∀ x (h : x < l.length), j ≤ x → c[x]? = some (.string l[x])
theorem DelW.skip {l : List ByteArray} {p : ByteArray → Bool} {g cap : Nat} {w wr : World} {i j : Nat} {c : Array Value} (h : DelW l p g cap w i j c wr) (hj : j < l.length) (hp : p l[j] = true) : DelW l p g cap w i (j + 1) c wr := by
  have e : (l.take (j + 1)).filter (fun s => !p s) = (l.take j).filter (fun s => !p s) := by
    rw [take_snoc l j hj, List.filter_append]; simp [hp]
  exact ⟨hj, by have := h.ij; omega, h.gr, h.b, h.sz, by rw [e]; exact h.il, by rw [e]; exact h.lo, fun x hx hjx => h.hi x hx (by omega)⟩
theorem DelW.keep {l : List ByteArray} {p : ByteArray → Bool} {g cap : Nat} {w wr : World} {i j : Nat} {c : Array Value} (h : DelW l p g cap w i j c wr) (hl : l.length ≤ cap) (hj : j < l.length) (hp : p l[j] = false) : DelW l p g cap w (i + 1) (j + 1) (c.setIfInBounds i (.string l[j])) (wr.setCell ⟨g, i, none⟩ (.string l[j])) := by
  have e : (l.take (j + 1)).filter (fun s => !p s) = (l.take j).filter (fun s => !p s) ++ [l[j]] := by
    rw [take_snoc l j hj, List.filter_append]; simp [hp]
  have hij := h.ij
  have hsz := h.sz
  refine ⟨hj, by omega, grown_trans h.gr (grown_cell _ _ _ _), h.b.set i _, by simpa using h.sz, by rw [e, List.length_append, h.il]; rfl, ?_, fun x hx hjx => ?_⟩
  · rw [e, strsC_snoc, ← h.lo]
    have hil : i < c.size := by omega
    rw [show (c.setIfInBounds i (.string l[j])).toList = c.toList.set i (.string l[j]) by simp]
    rw [List.take_succ, List.getElem?_set, if_pos rfl, if_pos (by simpa using hil), List.take_set_of_le (Nat.le_refl _)]
    rfl
  · rw [Array.getElem?_setIfInBounds, if_neg (by omega)]
    exact h.hi x hx (by omega)
set_option maxHeartbeats 1600000 in
set_option maxRecDepth 100000 in
theorem delStr_any (g : Nat) (lb : Array Value) (eg : ∀ args w, (callFunc g args).run Try.prog w = .ok (.enter g args) w) (p : ByteArray → Bool) (l : List ByteArray) (hll : l.length ≤ 100000) (B : Nat) (v : Value) (w : World) (ho : OwnS B v l w)
    (hp : ∀ gb, v.ownBlock = some gb → ∀ W s, w.grownBy W (some gb) → s ∈ l → Calls Try.prog g (#[.string s] ++ lb) W fun e w' => e = .returned (.bool (p s)) ∧ W = w') :
    Calls Try.prog 61 #[v, .func (.func g) #[] lb] w fun e w' => ∃ v', e = .returned v' ∧ OwnS B v' (l.filter (fun s => !p s)) w' ∧ w.grownBy w' v.ownBlock := by
  have HSH := hide ho.2
  rcases ho.1.2 with ⟨rfl, h0⟩ | ⟨gb, cap, cur, rfl, hB, hh, hc, hm, hs, ht⟩
  · have hnil : l = [] := List.eq_nil_of_length_eq_zero h0
    subst hnil
    have HC := hide (idxStr_any g lb eg p [] none 0 w Row.nil (fun s h => by cases h))
    have HO := hide ho
    clear ho hp h0
    go_enter Try.func61, Try.ntmps61
    go_wp2_with fail
    refine HC.out.mono ?_
    rintro e w2 ⟨rfl, rfl⟩
    go_wp2_with fail
    go_ret
    exact ⟨_, rfl, HO.out, ⟨rfl, rfl, rfl, Nat.le_refl _, fun _ _ _ => rfl⟩⟩
  · obtain ⟨a', cap', e1, hrow⟩ := ho.row (by omega)
    injection e1 with e1 _ e3
    subst e1 e3
    have HP := hide (hp gb rfl)
    have HC := hide (idxStr_any g lb eg p l (some ⟨gb, 0, none⟩) cap w hrow (fun s hs => HP.out w s (grown_refl _ _) hs))
    have HCAP := hide hc
    have HMX := hide hm
    have HBB := hide hB
    have HB := hide (show Blk w gb cur 9 from hh)
    have HSZ := hide (show cur.size = cap by rw [hs, Nat.mul_one])
    have HT := hide (show cur.toList.take l.length = strsC l by rw [Nat.mul_one] at ht; exact ht)
    have hcell : ∀ x (h : x < l.length), cur[x]? = some (.string l[x]) := fun x hx => by
      have h1 : (cur.toList.take l.length)[x]? = (strsC l)[x]? := by rw [HT.out]
      rw [List.getElem?_take, if_pos hx] at h1
      rw [← Array.getElem?_toList, h1]
      unfold strsC
      rw [List.getElem?_map, List.getElem?_eq_getElem hx]; rfl
    have HCL := hide hcell
    have HO := hide ho
    clear ho hp hh hs ht hB hm hcell hrow
    obtain ⟨z, hz⟩ : ∃ z, fIdx p l 0 = z := ⟨_, rfl⟩
    have HZ := hide hz
    rw [hz] at HC
    clear hz
    by_cases hz1 : z = -1
    · subst hz1
      go_enter Try.func61, Try.ntmps61
      go_wp2_with fail
      refine HC.out.mono ?_
      rintro e w2 ⟨rfl, rfl⟩
      go_wp2_with fail
      go_ret
      refine ⟨_, rfl, ?_, ⟨rfl, rfl, rfl, Nat.le_refl _, fun _ _ _ => rfl⟩⟩
      have hf : l.filter (fun s => !p s) = l := by
        have h1 := fIdx_any p l 0
        rw [HZ.out] at h1
        rw [List.filter_eq_self]
        intro s hs
        cases hps : p s
        · rfl
        · have : l.any p = true := List.any_eq_true.2 ⟨s, hs, hps⟩
          rw [this] at h1
          exact absurd h1 (by decide)
      rw [hf]
      exact HO.out
    · obtain ⟨k, hk, hzk, hpk, hbf⟩ := (fIdx_spec p l 0).resolve_left (fun h => hz1 (HZ.out.symm.trans h.1))
      rw [HZ.out, Nat.zero_add] at hzk
      subst hzk
      have hfk : (l.take (k + 1)).filter (fun s => !p s) = l.take k := by
        rw [take_snoc l k hk, List.filter_append]
        have h1 : (l.take k).filter (fun s => !p s) = l.take k := by
          rw [List.filter_eq_self]
          intro s hs
          obtain ⟨x, hx, rfl⟩ := List.mem_iff_getElem.1 hs
          have hxk : x < k := by rw [List.length_take] at hx; omega
          rw [List.getElem_take, hbf x (by omega) hxk]; rfl
        rw [h1]; simp [hpk]
      have HD0 := hide (show DelW l p gb cap w k (k + 1) cur w from ⟨hk, Nat.le_refl _, grown_refl _ _, HB.out, HSZ.out, by rw [hfk, List.length_take]; omega, by
        rw [hfk]
        have h1 : (cur.toList.take l.length).take k = (strsC l).take k := by rw [HT.out]
        rw [List.take_take, Nat.min_eq_left (by omega)] at h1
        rw [h1]; unfold strsC; rw [List.map_take], fun x hx _ => HCL.out x hx⟩)
      have hkne : ((k : Int) == -1) = false := beq_eq_false_iff_ne.2 (by omega)
      have hkn : ¬ (k : Int) = -1 := by omega
      have hz9 : ∀ w, (zeroValue 9).run Try.prog w = .ok (.string ⟨#[]⟩) w := fun w => by kernel_rfl
      have HZ9 := hide hz9
      clear hfk hbf hpk hz1 hz9
      go_enter Try.func61, Try.ntmps61
      go_wp2_with fail
      refine HC.out.mono ?_
      rintro e w2 ⟨rfl, rfl⟩
      go_wp2_with fail
      go_loopg [5, 6] (l.length - (k + 1)) (fun u v5 v6 wr => ∃ i j : Nat, ∃ c : Array Value, Hid (u = l.length - j) ∧ v5 = .int .i64 (i : Int) ∧ v6 = .int .i64 (j : Int) ∧ Hid (DelW l p gb cap w i j c wr))
      case atStart => exact ⟨k, k + 1, cur, hide rfl, rfl, by go_num, HD0⟩
      case round =>
        obtain ⟨i, j, c, hu, rfl, rfl, hh⟩ := hrel
        have hjl := hh.out.jl
        have hij := hh.out.ij
        have hbl := hh.out.b.lt
        have hcl := HCAP.out
        have hcs := hh.out.sz
        by_cases hlt : j < l.length
        · have hlti : (j : Int) < (l.length : Int) := by omega
          have fj := hh.out.b.cell j
          rw [hh.out.hi j hlt (Nat.le_refl _)] at fj
          have HCF := hide (HP.out wr l[j] hh.out.gr (List.getElem_mem hlt))
          have HKEEP := hide (fun (h : p l[j] = false) => hh.out.keep hcl hlt h)
          have HSKIP := hide (fun (h : p l[j] = true) => hh.out.skip hlt h)
          generalize l[j] = t at fj HCF HKEEP HSKIP
          cases hpt : p t with
          | true =>
            rw [hpt] at HCF
            have HS := hide (HSKIP.out hpt)
            clear hpt
            go_wp2_with (go_at_fn g; refine HCF.out.mono ?_; rintro e w' ⟨rfl, rfl⟩)
            go_roundg (l.length - (j + 1))
            case measure => rw [hu.out]; omega
            case rel => exact ⟨i, j + 1, c, hide rfl, rfl, by go_num, HS⟩
          | false =>
            rw [hpt] at HCF
            have HS := hide (HKEEP.out hpt)
            clear hpt
            have fi : wr.cell? ⟨gb, i, none⟩ = some (c[i]'(by omega)) := by rw [hh.out.b.cell i, Array.getElem?_eq_getElem (by omega)]
            have ff := hh.out.b.free i
            have hil : (i : Int) < (l.length : Int) := by omega
            generalize c[i]'(by omega) = old at fi
            go_wp2_with (go_at_fn g; refine HCF.out.mono ?_; rintro e w' ⟨rfl, rfl⟩)
            go_roundg (l.length - (j + 1))
            case measure => rw [hu.out]; omega
            case rel => exact ⟨i + 1, j + 1, _, hide rfl, by go_num, by go_num, HS⟩
        · have hlti : ¬ (j : Int) < (l.length : Int) := by omega
          have hje : j = l.length := by omega
          subst hje
          have hil : (i : Int) ≤ (l.length : Int) := by omega
          have hic : (i : Int) ≤ (cap : Int) := by omega
          have hbc : ∀ q, q < l.length - i → (wr.cell? ⟨gb, i + q, none⟩).isSome = true := fun q hq => by
            rw [hh.out.b.cell (i + q), Array.getElem?_eq_getElem (by omega)]; rfl
          have hcl : ∀ ty, (Builtin.clear_ #[56] ty #[.slice (some ⟨gb, i, none⟩) (l.length - i) (cap - i)]).run Try.prog wr = .ok (.tuple #[]) (wr.setCells gb i (List.replicate (l.length - i) (.string ⟨#[]⟩))) :=
            fun ty => Lib.run_clear_slice wr 56 9 ty (.string ⟨#[]⟩) Try.underlying56 HZ9.out rfl rfl gb i (l.length - i) (cap - i) (by omega) hbc (fun q _ => hh.out.b.free (i + q))
          have hlen : ((l.length - i : Nat) : Int) = (l.length : Int) - (i : Int) := by omega
          obtain ⟨cc, hbc2, hsz2, hlo2, hgr2⟩ := setCells_blk gb 9 (List.replicate (l.length - i) (.string ⟨#[]⟩)) i wr c hh.out.b
          have HF := hide (And.intro hbc2 (And.intro hsz2 (And.intro hlo2 hgr2)))
          clear hbc hbc2 hsz2 hlo2 hgr2
          go_wp2_with fail
          go_ret
          obtain ⟨hbc2, hsz2, hlo2, hgr2⟩ := HF.out
          have hil2 := hh.out.il
          have hlo := hh.out.lo
          rw [List.take_length] at hil2 hlo
          refine ⟨_, rfl, ⟨⟨by unfold strsC; simp, Or.inr ⟨gb, cap, cc, by rw [hil2]; rfl, HBB.out, hbc2, by omega, HMX.out, by rw [hsz2, hcs, Nat.mul_one], ?_⟩⟩, fun s hs => HSH.out s (List.mem_filter.1 hs).1⟩, grown_trans hh.out.gr hgr2⟩
          rw [Nat.mul_one, hil2, ← hlo]
          apply List.ext_getElem?
          intro x
          rw [List.getElem?_take, List.getElem?_take]
          by_cases hx : x < i
          · rw [if_pos hx, if_pos hx, Array.getElem?_toList, Array.getElem?_toList, hlo2 x hx]
          · rw [if_neg hx, if_neg hx]
/-- The lexical sorts. -/
def lexL (d : Df) : List ByteArray := (sortsL d.prods).filter (fun s => isLex d.prods s true)
set_option maxHeartbeats 800000 in
set_option maxRecDepth 100000 in
theorem Lexical_any (d : Df) (a2 : Option Addr) (c2 : Nat) (a3 : Option Addr) (c3 : Nat) (a4 : Option Addr) (c4 : Nat) (a5 : Option Addr) (c5 : Nat) (a6 : Option Addr) (c6 : Nat) (w : World) (hd : RD d ⟨a2, c2, a3, c3, a4, c4, a5, c5, a6, c6⟩ w) (hln : d.prods.length ≤ 100000) : Calls Try.prog 25 #[.agg #[.string d.start, .string d.layout, .slice a2 d.prods.length c2, .slice a3 d.chains.length c3, .slice a4 d.follows.length c4, .slice a5 d.rejects.length c5, .slice a6 d.boxes.length c6]] w fun e w' => ∃ v, e = .returned v ∧ OwnS w.heap.size v (lexL d) w' ∧ Below w.heap.size w w' := by
  have HB0 := hide ((Below.refl w.heap.size w).alloc (Nat.le_refl _) (.cells #[.string d.start, .string d.layout, .slice a2 d.prods.length c2, .slice a3 d.chains.length c3, .slice a4 d.follows.length c4, .slice a5 d.rejects.length c5, .slice a6 d.boxes.length c6] 28))
  have HC := hide (open_any d a2 c2 a3 c3 a4 c4 a5 c5 a6 c6 (w.alloc (.cells #[.string d.start, .string d.layout, .slice a2 d.prods.length c2, .slice a3 d.chains.length c3, .slice a4 d.follows.length c4, .slice a5 d.rejects.length c5, .slice a6 d.boxes.length c6] 28)) (hd.below HB0.out) hln)
  have HLN := hide hln
  clear hd hln
  go_enter Try.func25, Try.ntmps25
  go_wp2_with fail
  refine HC.out.mono ?_
  rintro e w5 ⟨bb, as_, cs, m, n, rfl, hh⟩
  have HBK := hide hh.out.1
  have HO := hide (hh.out.2.1.base HB0.out.size)
  have HB5 := hide (below_next HB0.out hh.out.2.2.2)
  clear hh
  go_upto_region 2 with fail
  obtain ⟨kb, hkb⟩ : ∃ kb, w5.heap.size = kb := ⟨_, rfl⟩
  have hba := NB.alloc (Below.refl w5.heap.size w5) (.cells #[.pointer (some ⟨bb, 0, none⟩)] 70)
  have HB6 := hide (below_next HB5.out hba)
  have HK6 := hide (Blk.new w5 #[.pointer (some ⟨bb, 0, none⟩)] 70)
  have HBB6 := hide (HBK.out.bk.below hba)
  have HM6 := hide (HBK.out.mp.below hba)
  have HO6 := hide (HO.out.below hba)
  rw [hkb] at HK6 ⊢
  clear hba hkb
  generalize w5.alloc (.cells #[.pointer (some ⟨bb, 0, none⟩)] 70) = w6 at HB6 HK6 HBB6 HM6 HO6 ⊢
  clear HBK HO HB5 HC HB0
  have HDEL := hide (delStr_any 62 #[.pointer (some ⟨kb, 0, none⟩)] (by intro args w; exact enters_of Try.func62 (by kernel_rfl) rfl args w) (fun s => !isLex d.prods s true) (sortsL d.prods) (Nat.le_trans (sortsL_len d.prods) HLN.out) w.heap.size _ w6 HO6.out (fun gb hgb W s hg hs =>
    notLex_at d.prods _ _ _ _ _ _ _ _ m n bb kb s W (HK6.out.grown hg (by rw [← hgb]; exact HK6.out.own_ne HO6.out.1 (by decide))) (HBB6.out.grown hg (by rw [← hgb]; exact HBB6.out.own_ne HO6.out.1 (by decide))) (HM6.out.grown hg (by rw [← hgb]; exact HM6.out.ne_own HO6.out.1)) (HO6.out.2 s hs)))
  have k0 := HK6.out.cell 0
  have kl := HK6.out.lt
  have b7 := HBB6.out.cell 7
  have bl := HBB6.out.lt
  go_wp2_with fail
  refine HDEL.out.mono ?_
  rintro e w7 ⟨v', rfl, ho7, hg7⟩
  have HO7 := hide ho7
  have HG7 := hide hg7
  clear ho7 hg7 k0 kl b7 bl
  go_wp2_with fail
  go_ret
  refine ⟨_, rfl, ?_, HB6.out.grown HG7.out HB6.out.size (fun g hg => own_block_ge HO6.out.1 g hg)⟩
  have := HO7.out
  simp only [Bool.not_not] at this
  exact this
end Go.Proofs.Ytalicfpcmcbdbaa
