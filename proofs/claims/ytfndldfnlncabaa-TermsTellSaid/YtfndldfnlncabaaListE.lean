/- The walk of the reader's method list where there may be none. -/
import Derived.Test.YtfndldfnlncabaaListW
namespace Go.Proofs.Ytfndldfnlncabaa
set_option linter.unnecessarySimpa false
set_option linter.deprecated false
open Go.RowKit
set_option linter.unusedVariables false
set_option linter.unusedSimpArgs false

set_option maxHeartbeats 8000000 in
set_option maxRecDepth 100000 in
theorem rlist_true (s : ByteArray) (n : Nat) (ih : TermOk s n) (hs : s.size ≤ 65536) (g p : Nat) (w : World) (e : UInt8) (hp : p + 1 ≤ s.size) (hr : Rd w g s p) :
    Calls Try.prog 56 #[.pointer (some ⟨g, 0, none⟩), .int .u8 (e.toNat : Int), .bool true, .int .i64 (n : Int)] w fun e' w' => RlPost g s w.heap.size (listsL (termL n) e true (s.data.toList.drop (p + 1))) e' w' ∧ Fr g w w' := by
  obtain ⟨res, hres⟩ : ∃ res, listsL (termL n) e true (s.data.toList.drop (p + 1)) = res := ⟨_, rfl⟩
  rw [hres]
  unfold listsL at hres
  simp only [if_true] at hres
  have HR := hide hr
  have HN := hide (Nat.le_of_lt hr.lt)
  have c1 := hr.cell1
  have z1 := hr.free1
  have hlt := hr.lt
  have hpi : (p : Int) ≤ 65536 := by omega
  have heI : (0 : Int) ≤ (e.toNat : Int) ∧ (e.toNat : Int) ≤ 255 := by have := e.toNat_lt; omega
  obtain ⟨i0, hi, hz0, hz1, hz2⟩ := info_parts info25
  have HP := hide (peek_any g s (p + 1) (w.setCell ⟨g, 1, none⟩ (.int .i64 ((p : Int) + 1))) hs hp (Rd.set HR.out (p + 1) (by omega)))
  have HF0 := hide (show Fr g w (w.setCell ⟨g, 1, none⟩ (.int .i64 ((p : Int) + 1))) from Fr.setS (Fr.refl _ _))
  clear hr
  cases hP : peekL (s.data.toList.drop (p + 1)) with
  | bad m c =>
    have HF := hide (show PR.bad m c = res from by rw [hP] at hres; exact hres)
    rw [hP] at HP
    clear hres
    go_enter Try.func56, Try.ntmps56
    go_wp2_with fail
    refine HP.out.mono ?_
    rintro e1 w3 ⟨rfl, h1⟩
    unfold faultP
    go_wp2_with fail
    refine ⟨rfl, ?_, HF0.out.trans h1⟩
    rw [← HF.out]
    exact rfl
  | ok c0 r0 =>
  have hres2 : (if c0 = e then (.ok [] (r0.drop 1) : PR (List Tm)) else listL (termL n) e ((s.data.toList.drop (p + 1)).length + 1) r0 []) = res := by rw [hP] at hres; exact hres
  have hsuf0 : r0 <:+ s.data.toList := (peekL_suffix hP).trans (List.drop_suffix _ _)
  have hl0 : r0.length ≤ s.size - (p + 1) := by have := (peekL_suffix hP).length_le; rw [List.length_drop, size_len] at this; exact this
  have hr0 : 0 < r0.length := by obtain ⟨_, r', e3⟩ := peekL_ok hP; rw [e3]; simp
  have hdr0 : s.data.toList.drop (s.size - r0.length) = r0 := by have := drop_suffix hsuf0; rw [size_len] at this; exact this
  rw [hP] at HP
  generalize hq0 : s.size - r0.length = q0 at *
  have hq0i : (q0 : Int) ≤ 65536 := by omega
  by_cases hc0 : c0 = e
  · have HF := hide (show PR.ok [] (r0.drop 1) = res from by rw [if_pos hc0] at hres2; exact hres2)
    subst hc0
    clear hres hres2
    go_enter Try.func56, Try.ntmps56
    go_wp2_with fail
    refine HP.out.mono ?_
    rintro e1 w3 ⟨⟨rfl, hr3⟩, hf3⟩
    rw [hq0] at hr3
    have c13 := hr3.cell1
    have z13 := hr3.free1
    have hlt3 := hr3.lt
    have HR3 := hide hr3
    have HF3 := hide hf3
    clear hr3 hf3
    go_wp2_with fail
    go_ret
    refine ⟨?_, Fr.setS (HF0.out.trans HF3.out)⟩
    rw [← HF.out]
    refine ⟨none, 0, rfl, RKo.nil, ?_⟩
    rw [List.length_drop]
    exact Rd.set HR3.out _ (by omega)
  have HE := hide (show listL (termL n) e ((s.data.toList.drop (p + 1)).length + 1) r0 [] = res from by rw [if_neg hc0] at hres2; exact hres2)
  have HL := hide (peekL_suffix hP).length_le
  have hne0 := byte_ne hc0
  clear hres hres2 hc0 hP
  go_enter Try.func56, Try.ntmps56
  go_wp2_with fail
  refine HP.out.mono ?_
  rintro e1 w5 ⟨⟨rfl, hr5⟩, hf5⟩
  rw [hq0] at hr5
  have HR5 := hide hr5
  have HF5 := hide hf5
  clear hr5 hf5 HP c1 z1
  go_wp2_with fail
  go_loopg [9] (s.size - q0) (fun k v9 wr => ∃ q acc, Hid (k = s.size - q) ∧ Hid (RlRel g s w n e res q acc v9 wr))
  case atStart =>
    refine ⟨q0, [], rfl, hide ⟨HR5.out, HF0.out.trans HF5.out, by omega, OwnT.nil _ _, by simp, _, ?_, by rw [hdr0]; exact HE.out⟩⟩
    have := HL.out
    rw [hdr0]
    omega
  case round =>
    obtain ⟨q, acc, hk, hq⟩ := hrel
    have hle := hq.out.le
    have hlen := hq.out.len
    have HT := hide (ih g q wr hle hq.out.rd)
    have hstep := hide (listL_step n e _ acc res hq.out.eq)
    cases hT : termL n (s.data.toList.drop q) with
    | bad m c =>
      have HF := hide ((hstep.out).1 m c hT)
      rw [hT] at HT
      go_wp2_with fail
      refine HT.out.mono ?_
      rintro e1 w1 ⟨rfl, h1⟩
      unfold faultP
      go_wp2_with fail
      refine ⟨rfl, ?_, hq.out.fr.trans h1⟩
      rw [HF.out]
      exact rfl
    | ok T r =>
      have HS := hide ((hstep.out).2 T r hT)
      have hta := termL_tail n _ _ _ hT
      have hsuf : r <:+ s.data.toList := hta.1.trans (List.drop_suffix _ _)
      have hrl : r.length < s.size - q := by have := hta.2; rw [List.length_drop, size_len] at this; exact this
      have hdr : s.data.toList.drop (s.size - r.length) = r := by have := drop_suffix hsuf; rw [size_len] at this; exact this
      rw [hT] at HT
      go_wp2_with fail
      refine HT.out.mono ?_
      rintro e1 w1 ⟨⟨v, rfl, hv, hr1⟩, hf1⟩
      obtain ⟨a1, k1, a2, k2, rfl, hkk, hcc, _, hrr⟩ := hv.open
      have HV := hide hv
      have HR1 := hide hr1
      clear hv hr1
      have hown0 := hq.out.own.keep (hf1.keep fun k hk => by have := HN.out; omega)
      obtain ⟨cs, hcl, hown, hcs⟩ := hown0.ex
      have hvo : ∀ k, u9.ownBlock = some k → k < wr.heap.size := fun k hk => by
        obtain ⟨cs0, _, hown0, _⟩ := hq.out.own.ex
        rcases hown0.2 with ⟨rfl, _⟩ | ⟨b, _, _, rfl, _, hb, _⟩
        · cases hk
        · injection hk with hk
          subst hk
          exact (Array.getElem?_eq_some_iff.1 hb).1
      have hz1' := hf1.size
      have hz0' := hq.out.fr.size
      have HF1 := hide hf1
      clear hf1
      go_wp2_with (at_builtin; refine wpList_append_own_at _ rfl _ _ 23 rfl w.heap.size 25 i0 _ 4 72 Try.underlying23 hi hz0 hz1 hz2 rfl (by decide) _ _ _ rfl (World.ownsRow.alloc hown _) ⟨w1.heap.size, 0, none⟩ 1 1 _ rfl rfl (four_new _ _ _ _ _ _) (by simp [Value.oneCell']) (by unfold maxLen; omega) (by omega) (by simp; omega) ?_; intro v' w2 hown' hgrow hnil hat)
      have HB : ∀ k, u9.ownBlock = some k → w.heap.size ≤ k := fun k hk => by
        rcases hown.2 with ⟨rfl, _⟩ | ⟨b, _, _, rfl, hb, _⟩
        · cases hk
        · injection hk with hk
          subst hk
          exact hb
      have hka : Keep (fun k => w.heap.size ≤ k ∧ some k ≠ u9.ownBlock) w1 (w1.alloc (.cells #[.int .i64 T.kind, .string T.cons, .slice a1 T.text.length k1, .slice a2 T.kids.length k2] 25)) := (Keep.refl _ _).allocS
      have HO := hide (OwnT.push hcl (fun i hi => by obtain ⟨x, hx1, hx2⟩ := hcs i hi; exact ⟨x, hx1, RTo.keep hka hx2⟩) (RTo.keep hka (RTo.weak (fun k hk => ⟨by omega, fun e => by have := hvo k e.symm; omega⟩) HV.out)) hown' hgrow hat)
      have HR2 := hide (Blk.grown (HR1.out.allocS (o := .cells #[.int .i64 T.kind, .string T.cons, .slice a1 T.text.length k1, .slice a2 T.kids.length k2] 25)) hgrow (Blk.own_ne HR1.out hown (by decide)))
      have HF2 := hide (Fr.grown ((hq.out.fr.trans HF1.out).allocS) hgrow HB)
      have HP := hide (peek_any g s (s.size - r.length) w2 hs (by omega) HR2.out)
      rw [hdr] at HP
      clear hcs hown hown' hgrow hnil hat hown0 HR2 HF1 HR1 HV
      cases hP : peekL r with
      | bad m c =>
        have HF := hide ((HS.out).1 m c hP)
        rw [hP] at HP
        refine HP.out.mono ?_
        rintro e1 w3 ⟨rfl, h1⟩
        unfold faultP
        go_wp2_with fail
        refine ⟨rfl, ?_, HF2.out.trans h1⟩
        rw [HF.out]
        exact rfl
      | ok c r2 =>
        have HT2 := hide ((HS.out).2 c r2 hP)
        have hsuf2 : r2 <:+ s.data.toList := (peekL_suffix hP).trans hsuf
        have hl2 : r2.length ≤ r.length := (peekL_suffix hP).length_le
        have hr2 : 0 < r2.length := by obtain ⟨_, r', e3⟩ := peekL_ok hP; rw [e3]; simp
        have hdr2 : s.data.toList.drop (s.size - r2.length) = r2 := by have := drop_suffix hsuf2; rw [size_len] at this; exact this
        have HD := hide (show s.data.toList.drop (s.size - r2.length + 1) = r2.drop 1 from by rw [← List.drop_drop, hdr2])
        rw [hP] at HP
        refine HP.out.mono ?_
        rintro e1 w3 ⟨⟨rfl, hr3⟩, hf3⟩
        have c13 := hr3.cell1
        have z13 := hr3.free1
        have hlt3 := hr3.lt
        have HR3 := hide hr3
        have HF3 := hide hf3
        have HK := hide (HO.out.keep (hf3.keep fun k hk => by have := HN.out; omega))
        generalize hq2 : s.size - r2.length = q2 at *
        clear hr3 hf3 HP
        have hq2i : (q2 : Int) ≤ 65536 := by omega
        by_cases hce : c = e
        · have HF := hide ((HT2.out).1 hce)
          subst hce
          obtain ⟨a9, k9, rfl, ho⟩ := OwnT.reads HK.out (by rw [List.length_append, List.length_singleton]; omega)
          have HO3 := hide ho
          clear ho
          go_wp2_with fail
          go_ret
          refine ⟨?_, Fr.setS (HF2.out.trans HF3.out)⟩
          rw [HF.out]
          refine ⟨a9, k9, by rw [List.length_append]; rfl, RKo.keep ((Keep.refl _ _).setS (by have := HN.out; omega)) HO3.out, ?_⟩
          rw [List.length_drop]
          exact Rd.set HR3.out _ (by omega)
        · have hne := byte_ne hce
          by_cases h44 : c = 44
          · have HF := hide ((HT2.out).2.1 hce h44)
            subst h44
            have hne' : ((44 : Int) == (e.toNat : Int)) = false := hne
            clear hne hce
            go_wp2_with fail
            go_roundg (s.size - (q2 + 1))
            case measure => rw [hk.out]; omega
            case rel =>
              refine ⟨q2 + 1, acc ++ [T], rfl, hide ⟨?_, ?_, by omega, ?_, by rw [List.length_append, List.length_singleton]; omega, ?_⟩⟩
              · exact Rd.set HR3.out (q2 + 1) (by omega)
              · exact Fr.setS (HF2.out.trans HF3.out)
              · exact HK.out.keep ((Keep.refl _ _).setS (by have := HN.out; omega))
              · rw [HD.out]; exact HF.out
          · have HF := hide ((HT2.out).2.2 hce h44)
            have h44' : ((c.toNat : Int) == 44) = false := byte_ne h44
            clear h44 hce
            go_wp2_with fail
            refine (fail_any _ _ _).mono ?_
            rintro e1 w4 ⟨rfl, rfl⟩
            unfold faultP
            go_wp2_with fail
            refine ⟨rfl, ?_, HF2.out.trans HF3.out⟩
            rw [HF.out]
            show _ = faultP ((s.size - r2.length : Nat) : Int) 11
            rw [hq2]
            rfl

/-- The contract of list, from the term's. -/
theorem rlist_any (s : ByteArray) (n : Nat) (ih : TermOk s n) (hs : s.size ≤ 65536) (g p : Nat) (w : World) (e : UInt8) (emp : Bool) (hp : p + 1 ≤ s.size) (hr : Rd w g s p) :
    Calls Try.prog 56 #[.pointer (some ⟨g, 0, none⟩), .int .u8 (e.toNat : Int), .bool emp, .int .i64 (n : Int)] w fun e' w' => RlPost g s w.heap.size (listsL (termL n) e emp (s.data.toList.drop (p + 1))) e' w' ∧ Fr g w w' := by
  cases emp
  · exact rlist_false s n ih hs g p w e hp hr
  · exact rlist_true s n ih hs g p w e hp hr
end Go.Proofs.Ytfndldfnlncabaa
