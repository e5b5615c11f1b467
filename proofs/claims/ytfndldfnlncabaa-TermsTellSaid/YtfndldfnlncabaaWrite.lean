/- The walks of terms.write, its closure, and terms.Print. -/
import Derived.Test.YtfndldfnlncabaaQuote
import Derived.Test.YtfndldfnlncabaaRight
import Derived.Test.YtfndldfnlncabaaPlain
import Derived.Deep.RegionWith
namespace Go.Proofs.Ytfndldfnlncabaa
set_option linter.unnecessarySimpa false
set_option linter.deprecated false
open Go.RowKit
set_option linter.unusedVariables false
set_option linter.unusedSimpArgs false

theorem Blk.others {w w' : World} {k b : Nat} {c : Array Value} {t : TypeId} (h : Blk w k c t) (ho : Lib.OthersKept 5 (some b) w w') (ht : t ≠ 5) (hb : k ≠ b) : Blk w' k c t :=
  ho k _ h (fun e => hb (Option.some.inj e)) (fun c' fz e => ht (by injection e))
theorem BI.block {w0 : World} {b : Nat} {acc : List UInt8} {wr : World} (h : BI w0 b acc wr) : w0.heap.size ≤ b ∧ ∃ c, wr.heap[b]? = some (.cells c 59 (0, 0)) := by
  rcases h.1 with ⟨h1, v, h2, _⟩ | ⟨h1, v, h2, _⟩
  · exact ⟨h1, _, h2⟩
  · exact ⟨h1, _, h2⟩
theorem BI.ne {w0 : World} {b : Nat} {acc : List UInt8} {wr : World} (h : BI w0 b acc wr) {k : Nat} {c : Array Value} {t : TypeId} (hk : Blk wr k c t) (ht : t ≠ 59) : k ≠ b := by
  rintro rfl
  obtain ⟨_, c', hc⟩ := h.block
  unfold Blk at hk
  rw [hc] at hk
  injection hk with hk
  injection hk with _ hk
  exact ht hk.symm
theorem BI.others {w0 : World} {b : Nat} {acc acc' : List UInt8} {wr w' : World} (h : BI w0 b acc wr) (ho : Lib.OthersKept 5 (some b) wr w') {k : Nat} {c : Array Value} {t : TypeId} (hk : Blk wr k c t) (ht : t ≠ 59) (h5 : t ≠ 5) : Blk w' k c t :=
  hk.others ho h5 (h.ne hk ht)
theorem alloc_others (w : World) (b : Nat) (o : Obj) : Lib.OthersKept 5 (some b) w (w.alloc o) := (Lib.OthersKept.refl 5 (some b) w).alloc o
theorem storeOthers {w0 : World} {b : Nat} {acc : List UInt8} {wr : World} (h : BI w0 b acc wr) : b < wr.heap.size := by
  obtain ⟨_, c, hc⟩ := h.block
  exact (Array.getElem?_eq_some_iff.1 hc).1

/-- The contract of write at a term. -/
def WriteOk (M : Nat) (w0 : World) (b : Nat) (x : Tm) : Prop := ∀ (n : Nat), rightB n x = true → ∀ (v : Value) (acc : List UInt8) (wr : World), RT w0 x v → BI w0 b acc wr → acc.length + vol x ≤ M →
  Calls Try.prog 35 #[.pointer (some ⟨b, 0, none⟩), v] wr fun e w' => e = .returned (.tuple #[]) ∧ BI w0 b (wrT x acc) w' ∧ Lib.OthersKept 5 (some b) wr w'
theorem WriteOk.get {M : Nat} {w0 : World} {b : Nat} {x : Tm} (h : WriteOk M w0 b x) {n : Nat} (hn : rightB n x = true) {v : Value} {acc : List UInt8} {wr : World} (hx : RT w0 x v) (hI : BI w0 b acc wr) (hl : acc.length + vol x ≤ M) :
  Calls Try.prog 35 #[.pointer (some ⟨b, 0, none⟩), v] wr fun e w' => e = .returned (.tuple #[]) ∧ BI w0 b (wrT x acc) w' ∧ Lib.OthersKept 5 (some b) wr w' := h n hn v acc wr hx hI hl

structure ListRel (M : Nat) (w0 : World) (b o1 o2 : Nat) (x0 x1 x2 : Value) (a2 : Option Addr) (c2 : Nat) (ks : List Tm) (fin : List UInt8) (wr0 : World) (k : Nat) (wr : World) : Prop where
  acc : ∃ acc, BI w0 b acc wr ∧ wrL (decide (k = 0)) (ks.drop k) acc = fin ∧ acc.length + volL (ks.drop k) ≤ M
  b1 : Blk wr o1 #[.pointer (some ⟨b, 0, none⟩)] 57
  b2 : Blk wr o2 #[x0, x1, x2, .slice a2 ks.length c2] 25
  ot : Lib.OthersKept 5 (some b) wr0 wr

theorem ListRel.next {M : Nat} {w0 : World} {b o1 o2 : Nat} {x0 x1 x2 : Value} {a2 : Option Addr} {c2 : Nat} {ks : List Tm} {fin : List UInt8} {wa : World} {k : Nat} {wr : World} (h : ListRel M w0 b o1 o2 x0 x1 x2 a2 c2 ks fin wa k wr)
    {acc1 acc2 : List UInt8} {w2 : World} (hI1 : BI w0 b acc1 wr) (hI2 : BI w0 b acc2 w2) (ho : Lib.OthersKept 5 (some b) wr w2) (hf : wrL false (ks.drop (k + 1)) acc2 = fin) (hb : acc2.length + volL (ks.drop (k + 1)) ≤ M) :
    ListRel M w0 b o1 o2 x0 x1 x2 a2 c2 ks fin wa (k + 1) w2 :=
  ⟨⟨acc2, hI2, by rw [decide_eq_false (by omega)]; exact hf, hb⟩, hI1.others (acc' := []) ho h.b1 (by decide) (by decide), hI1.others (acc' := []) ho h.b2 (by decide) (by decide), h.ot.trans ho⟩

set_option maxHeartbeats 4000000 in
set_option maxRecDepth 100000 in
theorem list_any (M : Nat) (hM : M ≤ 140737488330000) (w0 : World) (b o1 o2 : Nat) (x0 x1 x2 : Value) (a2 : Option Addr) (c2 : Nat) (ks : List Tm) (acc : List UInt8) (o q : UInt8) (wa : World) (hk : RK w0 a2 ks)
    (hI : BI w0 b acc wa) (h1 : Blk wa o1 #[.pointer (some ⟨b, 0, none⟩)] 57) (h2 : Blk wa o2 #[x0, x1, x2, .slice a2 ks.length c2] 25) (hl : acc.length + 1 + volL ks ≤ M) (n : Nat) (hn : ∀ x ∈ ks, rightB n x = true) (ih : ∀ x ∈ ks, WriteOk M w0 b x) :
    Calls Try.prog 49 #[.int .u8 (o.toNat : Int), .int .u8 (q.toNat : Int), .pointer (some ⟨o1, 0, none⟩), .pointer (some ⟨o2, 0, none⟩)] wa fun e w' => e = .returned (.tuple #[]) ∧ BI w0 b (wrL true ks (acc ++ [o]) ++ [q]) w' ∧ Lib.OthersKept 5 (some b) wa w' := by
  have HK := hide hk
  have HI := hide hI
  have H1 := hide h1
  have H2 := hide h2
  have IH := hide ih
  have HN := hide hn
  have hlen := hk.1
  have HL := hide hl
  have c1 : wa.cell? ⟨o1, 0, none⟩ = some (.pointer (some ⟨b, 0, none⟩)) := h1.cell 0
  clear hk hI h1 h2 ih hl hn
  go_enter Try.func49, Try.ntmps49
  go_wp2_with fail
  refine (HI.out.writeByte (by have := HL.out; omega) _ o rfl).mono ?_
  rintro e w1 ⟨rfl, hq, ho⟩
  have hb1 := HI.out.others (acc' := []) ho H1.out (by decide) (by decide)
  have hb2 := HI.out.others (acc' := []) ho H2.out (by decide) (by decide)
  have HR := hide (show ListRel M w0 b o1 o2 x0 x1 x2 a2 c2 ks (wrL true ks (acc ++ [o])) wa 0 w1 from ⟨⟨_, hq, rfl, by have := HL.out; simp; omega⟩, hb1, hb2, ho⟩)
  have d2 : w1.cell? ⟨o2, 3, none⟩ = some (.slice a2 ks.length c2) := hb2.cell 3
  clear hq ho hb1 hb2 c1
  go_wp2_with fail
  go_loopw [6, 7, 14] (fun _ _ v14 wr => ∃ k : Nat, v14 = .int .i64 k ∧ k ≤ ks.length ∧ Hid (ListRel M w0 b o1 o2 x0 x1 x2 a2 c2 ks (wrL true ks (acc ++ [o])) wa k wr)) (fun _ _ v14 _ => ks.length - (intOf v14).toNat)
  case atStart => exact ⟨0, rfl, Nat.zero_le _, HR.out⟩
  case round =>
    obtain ⟨k, rfl, hkl, hr⟩ := hrel
    by_cases hlt : k < ks.length
    · have HX := hide (IH.out ks[k] (List.getElem_mem hlt))
      obtain ⟨acc1, hI1, hfin, hbd⟩ := hr.out.acc
      obtain ⟨bk, ok, a1, ca1, a3, ca3, rfl, hbl, e0, e1, e2, e3, hx⟩ := HK.out.get k hlt
      have HX1 := hide hx
      have e0' := (hI1.2.cell (p := ⟨bk, ok + k * 4, none⟩) hbl).trans e0
      have e1' := (hI1.2.cell (p := ⟨bk, ok + k * 4 + 1, none⟩) hbl).trans e1
      have e2' := (hI1.2.cell (p := ⟨bk, ok + k * 4 + 2, none⟩) hbl).trans e2
      have e3' := (hI1.2.cell (p := ⟨bk, ok + k * 4 + 3, none⟩) hbl).trans e3
      have hbl' := Nat.lt_of_lt_of_le hbl hI1.2.size
      have c1 : wr.cell? ⟨o1, 0, none⟩ = some (.pointer (some ⟨b, 0, none⟩)) := hr.out.b1.cell 0
      have ho1 := hr.out.b1.lt
      have HI1 := hide hI1
      have hdrop : ks.drop k = ks[k] :: ks.drop (k + 1) := List.drop_eq_getElem_cons hlt
      rw [hdrop, wrL] at hfin
      rw [hdrop, volL] at hbd
      have HF := hide hfin
      have HD := hide hbd
      clear hx e0 e1 e2 e3 hI1 hfin hbd hdrop
      by_cases hk0 : k = 0
      · have HK0 := hide hk0
        have hk1 : ¬ (0 : Int) < (k : Int) := by omega
        have hk2 : decide ((0 : Int) < (k : Int)) = false := decide_eq_false hk1
        clear hk0
        by_cases hroom : acc1.length ≤ 65536
        · have hrI : (acc1.length : Int) ≤ 65536 := by omega
          go_wp2_with fail
          refine (HI1.out.drew _).len.mono ?_
          rintro e w' ⟨rfl, rfl⟩
          go_wp2_with fail
          refine (HX.out.get (HN.out _ (List.getElem_mem hlt)) HX1.out (HI1.out.drew _) (by have := HD.out; omega)).mono ?_
          rintro e w2 ⟨rfl, hI2, ho2⟩
          have HI2 := hide hI2
          have HO2 := hide ((alloc_others _ _ _).trans ho2)
          clear hI2 ho2
          go_wp2_with fail
          go_roundw
          case rel =>
            refine ⟨k + 1, by go_num, by omega, hr.out.next HI1.out HI2.out (HO2.out) ?_ ?_⟩
            · rw [← HF.out]; simp [HK0.out, hroom]
            · have h1 := wrT_len ks[k] (acc1)
              have h2 := HD.out
              (try simp only [List.length_append, List.length_cons, List.length_nil] at h1 ⊢)
              omega
          case measure => simp [intOf]; omega
        · have hrI : ¬ (acc1.length : Int) ≤ 65536 := by omega
          go_wp2_with fail
          refine (HI1.out.drew _).len.mono ?_
          rintro e w' ⟨rfl, rfl⟩
          have HI2 := hide (HI1.out.drew (Obj.cells #[Value.int IntKind.i64 ks[k].kind, Value.string ks[k].cons, Value.slice a1 ks[k].text.length ca1, Value.slice a3 ks[k].kids.length ca3] 25))
          go_wp2_with fail
          go_roundw
          case rel =>
            refine ⟨k + 1, by go_num, by omega, hr.out.next HI1.out HI2.out (alloc_others _ _ _) ?_ ?_⟩
            · rw [← HF.out]; simp [HK0.out, hroom]
            · have h1 := wrT_len ks[k] (acc1)
              have h2 := HD.out
              (try simp only [List.length_append, List.length_cons, List.length_nil] at h1 ⊢)
              omega
          case measure => simp [intOf]; omega
      · have HK0 := hide hk0
        have hk1 : (0 : Int) < (k : Int) := by omega
        have hk2 : decide ((0 : Int) < (k : Int)) = true := decide_eq_true hk1
        clear hk0
        go_wp2_with fail
        refine ((HI1.out.drew _).writeByte (by have := HD.out; omega) 44 44 rfl).mono ?_
        rintro e w2 ⟨rfl, hI2, ho2⟩
        have HI2 := hide hI2
        have HO2 := hide ((alloc_others _ _ _).trans ho2)
        have hb1 := HI1.out.others (acc' := []) HO2.out hr.out.b1 (by decide) (by decide)
        have c1' : w2.cell? ⟨o1, 0, none⟩ = some (.pointer (some ⟨b, 0, none⟩)) := hb1.cell 0
        have hv := (HI1.out.drew (Obj.cells #[Value.int IntKind.i64 ks[k].kind, Value.string ks[k].cons, Value.slice a1 ks[k].text.length ca1, Value.slice a3 ks[k].kids.length ca3] 25)).others (acc' := []) ho2 (Blk.new _ _ _) (by decide) (by decide)
        have v0 : w2.cell? ⟨wr.heap.size, 0, none⟩ = some (.int .i64 ks[k].kind) := hv.cell 0
        have v1 : w2.cell? ⟨wr.heap.size, 1, none⟩ = some (.string ks[k].cons) := hv.cell 1
        have v2 : w2.cell? ⟨wr.heap.size, 2, none⟩ = some (.slice a1 ks[k].text.length ca1) := hv.cell 2
        have v3 : w2.cell? ⟨wr.heap.size, 3, none⟩ = some (.slice a3 ks[k].kids.length ca3) := hv.cell 3
        clear hI2 ho2 hb1 hv
        obtain ⟨L, hL⟩ : ∃ L, (acc1 ++ [44]).length = L := ⟨_, rfl⟩
        have HL2 := hide hL
        clear hL
        by_cases hroom : L ≤ 65536
        · have hrI : (L : Int) ≤ 65536 := by omega
          have HRM := hide hroom
          clear hroom
          go_wp2_with fail
          refine (HI2.out.len' L HL2.out).mono ?_
          rintro e w' ⟨rfl, rfl⟩
          go_wp2_with fail
          refine (HX.out.get (HN.out _ (List.getElem_mem hlt)) HX1.out HI2.out (by have := HD.out; simp only [List.length_append, List.length_cons, List.length_nil]; omega)).mono ?_
          rintro e w3 ⟨rfl, hI3, ho3⟩
          have HO3 := hide (HO2.out.trans ho3)
          clear HI2
          have HI2 := hide hI3
          clear hI3 ho3
          go_wp2_with fail
          go_roundw
          case rel =>
            refine ⟨k + 1, by go_num, by omega, hr.out.next HI1.out HI2.out (HO3.out) ?_ ?_⟩
            · have h0 := HRM.out
              rw [← HL2.out] at h0
              rw [← HF.out, decide_eq_false HK0.out]
              simp only [Bool.false_eq_true, if_false]
              rw [if_pos h0]
            · have h1 := wrT_len ks[k] (acc1 ++ [44])
              have h2 := HD.out
              (try simp only [List.length_append, List.length_cons, List.length_nil] at h1 ⊢)
              omega
          case measure => simp [intOf]; omega
        · have hrI : ¬ (L : Int) ≤ 65536 := by omega
          have HRM := hide hroom
          clear hroom
          go_wp2_with fail
          refine (HI2.out.len' L HL2.out).mono ?_
          rintro e w' ⟨rfl, rfl⟩
          go_wp2_with fail
          go_roundw
          case rel =>
            refine ⟨k + 1, by go_num, by omega, hr.out.next HI1.out HI2.out (HO2.out) ?_ ?_⟩
            · have h0 := HRM.out
              rw [← HL2.out] at h0
              rw [← HF.out, decide_eq_false HK0.out]
              simp only [Bool.false_eq_true, if_false]
              rw [if_neg h0]
            · have h1 := wrT_len ks[k] (acc1)
              have h2 := HD.out
              (try simp only [List.length_append, List.length_cons, List.length_nil] at h1 ⊢)
              omega
          case measure => simp [intOf]; omega
    · obtain ⟨acc1, hI1, hfin, hbd⟩ := hr.out.acc
      have c1 : wr.cell? ⟨o1, 0, none⟩ = some (.pointer (some ⟨b, 0, none⟩)) := hr.out.b1.cell 0
      have hk : k = ks.length := by omega
      rw [hk, List.drop_length, wrL] at hfin
      have HI1 := hide hI1
      have HF := hide hfin
      have HD := hide hbd
      clear hI1 hfin hbd hk
      go_wp2_with fail
      refine (HI1.out.writeByte (by have := HD.out; omega) _ q rfl).mono ?_
      rintro e w2 ⟨rfl, hI2, ho2⟩
      go_wp2_with fail
      go_end0
      exact ⟨rfl, by rw [← HF.out]; exact hI2, hr.out.ot.trans ho2⟩
theorem BI.below {w0 : World} {b : Nat} {acc : List UInt8} {wr w' : World} (h : BI w0 b acc wr) (hw : Below wr.heap.size wr w') : BI w0 b acc w' := by
  have key : ∀ p, Lib.BuilderAtF 59 5 w0.heap.size b p (Lib.byteCells acc) wr → Lib.BuilderAtF 59 5 w0.heap.size b p (Lib.byteCells acc) w' := by
    rintro p ⟨h1, v, h2, ⟨h3, h4⟩, h5⟩
    refine ⟨h1, v, (hw.block b (Array.getElem?_eq_some_iff.1 h2).1).trans h2, ⟨h3, ?_⟩, h5⟩
    rcases h4 with h4 | ⟨g, cap, cur, fz, e1, e2, e3, e4⟩
    · exact .inl h4
    · exact .inr ⟨g, cap, cur, fz, e1, e2, (hw.block g (Array.getElem?_eq_some_iff.1 e3).1).trans e3, e4⟩
  exact ⟨h.1.elim (fun x => .inl (key _ x)) (fun x => .inr (key _ x)), h.2.trans (hw.mono h.2.size)⟩
theorem others_below {b : Nat} {wr w' : World} (hw : Below wr.heap.size wr w') : Lib.OthersKept 5 (some b) wr w' :=
  fun k o hk _ _ => (hw.block k (Array.getElem?_eq_some_iff.1 hk).1).trans hk
theorem BI.draws {w0 : World} {b : Nat} {acc : List UInt8} {wr : World} (h : BI w0 b acc wr) : BI w0 b acc wr.drew := h.below (Below.refl _ _).drew
theorem quoteL_size (t : List UInt8) : (⟨(quoteL t).toArray⟩ : ByteArray).size ≤ 4 * t.length + 2 := by
  have := qBytes_len t
  show (quoteL t).toArray.size ≤ _
  simp [quoteL]
  omega
theorem two_boxes {w0 : World} {b : Nat} {acc : List UInt8} {wr : World} (h : BI w0 b acc wr) (o1 o2 : Obj) : BI w0 b acc ((wr.alloc o1).alloc o2) ∧ Lib.OthersKept 5 (some b) wr ((wr.alloc o1).alloc o2) :=
  ⟨(h.drew o1).drew o2, ((Lib.OthersKept.refl 5 (some b) wr).alloc o1).alloc o2⟩

set_option maxHeartbeats 4000000 in
theorem write_any (M : Nat) (hM : M ≤ 140737488330000) (w0 : World) (b : Nat) (T : Tm) : WriteOk M w0 b T := by
  induction T using Tm.induct with
  | h k c t ks ih =>
  intro n hn v acc wr hx hI hl
  obtain ⟨a1, c1, a2, c2, rfl, hk, hc, hb, hr⟩ := hx.open
  simp only [Tm.kind, Tm.cons, Tm.text, Tm.kids] at *
  rw [vol] at hl
  have HI := hide hI
  have HL := hide hl
  have HR := hide hr
  have HT := hide hb
  have hlen := hr.1
  have IH := hide ih
  obtain ⟨m, rfl⟩ : ∃ m, n = m + 1 := by
    cases n with
    | zero => rw [rightB] at hn; cases hn
    | succ m => exact ⟨m, rfl⟩
  rw [rightB, Bool.and_eq_true, List.all_eq_true] at hn
  have HN := hide hn.2
  have HOK := hide hn.1
  clear hn
  clear hx hI hl hr ih hb hk
  have hmf : ∀ (fn : Fn) (first cap : Array Value) (w : World), (Instr.makeFunc fn first cap).run Try.prog w = .ok (.func fn first cap) w := fun _ _ _ _ => rfl
  by_cases k1 : k = 1
  · subst k1
    go_enter Try.func35, Try.ntmps35
    go_wp2_with fail
    refine ((two_boxes HI.out _ _).1.writeString c (by have := HL.out; omega)).mono ?_
    rintro e w2 ⟨rfl, hI2, ho2⟩
    have h1 := (two_boxes HI.out (Obj.cells #[Value.pointer (some { block := b, off := 0 })] 57) (Obj.cells #[Value.int IntKind.i64 1, Value.string c, Value.slice a1 t.length c1, Value.slice a2 ks.length c2] 25)).1.others (acc' := []) ho2 ((Blk.new _ _ _).alloc _) (by decide) (by decide)
    have h2 := (two_boxes HI.out (Obj.cells #[Value.pointer (some { block := b, off := 0 })] 57) (Obj.cells #[Value.int IntKind.i64 1, Value.string c, Value.slice a1 t.length c1, Value.slice a2 ks.length c2] 25)).1.others (acc' := []) ho2 (Blk.new _ _ _) (by decide) (by decide)
    have HI2 := hide hI2
    have HO2 := hide ((two_boxes HI.out _ _).2.trans ho2)
    have H1 := hide h1
    have H2 := hide h2
    have d3 : w2.cell? ⟨wr.heap.size + 1, 3, none⟩ = some (.slice a2 ks.length c2) := by have := h2.cell 3; simpa using this
    clear hI2 ho2 h1 h2
    by_cases h0 : ks.length = 0
    · have h0' : ¬ (0 : Int) < (ks.length : Int) := by omega
      have H0 := hide h0
      clear h0
      go_wp2_with fail
      go_end0
      exact ⟨rfl, by rw [wrT, if_pos rfl, if_pos H0.out]; exact HI2.out, HO2.out⟩
    · have h0' : (0 : Int) < (ks.length : Int) := by omega
      have H0 := hide h0
      clear h0
      go_wp2_with fail
      refine (list_any M hM w0 b _ _ _ _ _ a2 c2 ks _ 40 41 _ HR.out HI2.out H1.out (by simpa using H2.out) (by have := HL.out; simp; omega) m HN.out IH.out).mono ?_
      rintro e w3 ⟨rfl, hI3, ho3⟩
      go_wp2_with fail
      go_end0
      exact ⟨rfl, by rw [wrT, if_pos rfl, if_neg H0.out]; exact hI3, HO2.out.trans ho3⟩
  have hk1 : (k == 1) = false := by simpa using k1
  by_cases k2 : k = 2
  · subst k2
    have HQ4 : Hid (t.length ≤ 35184372084000) := (by have := HL.out; omega : t.length ≤ 35184372084000)
    have HQ5 : Hid (acc.length + (⟨(quoteL t).toArray⟩ : ByteArray).size ≤ 140737488355000) := (by have := HL.out; have := quoteL_size t; omega : acc.length + (⟨(quoteL t).toArray⟩ : ByteArray).size ≤ 140737488355000)
    go_enter Try.func35, Try.ntmps35
    go_wp2_with fail
    go_region_with (first | (go_at_call 52; refine (Quote_any a1 c1 t _ (HT.out.below (two_boxes HI.out _ _).1.draws.2) HQ4.out).mono ?_; rintro e w1 ⟨rfl, hb⟩; obtain ⟨hcl, hfr⟩ := bcell hb; have HB1 := hide hb; clear hb) | (go_at_call 51; refine ((((two_boxes HI.out _ _).1.draws).below HB1.out).writeString _ HQ5.out).mono ?_; rintro e w2 ⟨rfl, hI2, ho2⟩; have HI2 := hide hI2; have HO2 := hide ho2; clear hI2 ho2))
    all_goals (go_wp2_with fail; go_end0; exact ⟨rfl, by rw [wrT, if_neg (by decide), if_pos rfl]; exact HI2.out, ((two_boxes HI.out _ _).2.drew.trans (others_below HB1.out)).trans HO2.out⟩)
  have hk2 : (k == 2) = false := by simpa using k2
  by_cases k3 : k = 3
  · subst k3
    go_enter Try.func35, Try.ntmps35
    go_wp2_with fail
    refine (list_any M hM w0 b wr.heap.size (wr.heap.size + 1) _ _ _ a2 c2 ks acc 91 93 _ HR.out (two_boxes HI.out _ _).1 ((Blk.new _ _ _).alloc _) (by have := Blk.new (wr.alloc (Obj.cells #[Value.pointer (some { block := b, off := 0 })] 57)) #[Value.int IntKind.i64 3, Value.string c, Value.slice a1 t.length c1, Value.slice a2 ks.length c2] 25; simpa using this) (by have := HL.out; omega) m HN.out IH.out).mono ?_
    rintro e w3 ⟨rfl, hI3, ho3⟩
    go_wp2_with fail
    go_end0
    exact ⟨rfl, by rw [wrT, if_neg (by decide), if_neg (by decide), if_pos rfl]; exact hI3, (two_boxes HI.out _ _).2.trans ho3⟩
  have hk3 : (k == 3) = false := by simpa using k3
  by_cases k4 : k = 4
  · subst k4
    go_enter Try.func35, Try.ntmps35
    go_wp2_with fail
    refine ((two_boxes HI.out _ _).1.writeByte (by have := HL.out; omega) 45 45 rfl).mono ?_
    rintro e w3 ⟨rfl, hI3, ho3⟩
    go_wp2_with fail
    go_end0
    exact ⟨rfl, by rw [wrT, if_neg (by decide), if_neg (by decide), if_neg (by decide), if_pos rfl]; exact hI3, (two_boxes HI.out _ _).2.trans ho3⟩
  have hk4 : (k == 4) = false := by simpa using k4
  by_cases k5 : k = 5
  · subst k5
    go_enter Try.func35, Try.ntmps35
    go_wp2_with fail
    refine ((two_boxes HI.out _ _).1.writeByte (by have := HL.out; omega) 63 63 rfl).mono ?_
    rintro e w2 ⟨rfl, hI3, ho3⟩
    have HI3 := hide hI3
    have HO3 := hide ((two_boxes HI.out _ _).2.trans ho3)
    have h1 := (two_boxes HI.out (Obj.cells #[Value.pointer (some { block := b, off := 0 })] 57) (Obj.cells #[Value.int IntKind.i64 5, Value.string c, Value.slice a1 t.length c1, Value.slice a2 ks.length c2] 25)).1.others (acc' := []) ho3 ((Blk.new _ _ _).alloc _) (by decide) (by decide)
    have h2 := (two_boxes HI.out (Obj.cells #[Value.pointer (some { block := b, off := 0 })] 57) (Obj.cells #[Value.int IntKind.i64 5, Value.string c, Value.slice a1 t.length c1, Value.slice a2 ks.length c2] 25)).1.others (acc' := []) ho3 (Blk.new _ _ _) (by decide) (by decide)
    have d1 : w2.cell? ⟨wr.heap.size, 0, none⟩ = some (.pointer (some ⟨b, 0, none⟩)) := h1.cell 0
    have d3 : w2.cell? ⟨wr.heap.size + 1, 3, none⟩ = some (.slice a2 ks.length c2) := by have := h2.cell 3; simpa using this
    have hlen1 : ks.length = 1 := by
      have h := HOK.out
      simp [okB] at h
      exact h.2
    have hl0 : 0 < ks.length := by omega
    obtain ⟨bk, ok, b1, cb1, b3, cb3, rfl, hbl, e0, e1, e2, e3, hx⟩ := HR.out.get 0 hl0
    have HX := hide hx
    simp only [Nat.zero_mul, Nat.add_zero] at e0 e1 e2 e3
    have e0' := (hI3.2.cell (p := ⟨bk, ok, none⟩) hbl).trans e0
    have e1' := (hI3.2.cell (p := ⟨bk, ok + 1, none⟩) hbl).trans e1
    have e2' := (hI3.2.cell (p := ⟨bk, ok + 2, none⟩) hbl).trans e2
    have e3' := (hI3.2.cell (p := ⟨bk, ok + 3, none⟩) hbl).trans e3
    have HL1 := hide hlen1
    have hli : (0 : Int) < (ks.length : Int) := by omega
    clear hI3 ho3 h1 h2 hx e0 e1 e2 e3 hlen1
    have HK := hide ((IH.out ks[0] (List.getElem_mem hl0)))
    have HNK := hide (HN.out ks[0] (List.getElem_mem hl0))
    have HB := hide (show (acc ++ [63]).length + vol ks[0] ≤ M by
      have h := HL.out
      have h1 : volL ks = 1 + vol ks[0] + volL (ks.drop 1) := by
        have h2 : ks = ks[0] :: ks.drop 1 := (List.drop_eq_getElem_cons hl0 : ks.drop 0 = _)
        exact (congrArg volL h2).trans (by rw [volL])
      rw [List.length_append]
      simp only [List.length_cons, List.length_nil]
      omega)
    have HF := hide (show wrH ks (acc ++ [63]) = wrT ks[0] (acc ++ [63]) by
      have h2 : ks = ks[0] :: ks.drop 1 := (List.drop_eq_getElem_cons hl0 : ks.drop 0 = _)
      exact (congrArg (fun l => wrH l (acc ++ [63])) h2).trans (by rw [wrH]))
    go_wp2_with fail
    go_region_with (first | (go_at_call 35; refine (HK.out.get HNK.out HX.out HI3.out.draws HB.out).mono ?_; rintro e w3 ⟨rfl, hI4, ho4⟩; have HI4 := hide hI4; have HO4 := hide ho4; clear hI4 ho4))
    all_goals (go_wp2_with fail; go_end0; exact ⟨rfl, by rw [wrT, if_neg (by decide), if_neg (by decide), if_neg (by decide), if_neg (by decide), if_pos rfl, HF.out]; exact HI4.out, HO3.out.drew.trans HO4.out⟩)
  have hk5 : (k == 5) = false := by simpa using k5
  go_enter Try.func35, Try.ntmps35
  go_wp2_with fail
  go_end0
  exact ⟨rfl, by rw [wrT, if_neg k1, if_neg k2, if_neg k3, if_neg k4, if_neg k5]; exact (two_boxes HI.out _ _).1, (two_boxes HI.out _ _).2⟩
end Go.Proofs.Ytfndldfnlncabaa
