/- The order of things does not count. -/
import Derived.Test.YtalicfpcmcbdbaaZOkD
import Derived.Test.YtalicfpcmcbdbaaZLWhole
set_option linter.unusedVariables false
set_option linter.unusedSimpArgs false
set_option linter.unnecessarySimpa false
set_option linter.deprecated false
namespace Go.Proofs.Ytalicfpcmcbdbaa
open Go.RowKit

theorem isLex_perm {l l' : List Pd} (h : l.Perm l') (s : ByteArray) (b : Bool) : isLex l s b = isLex l' s b := by
  rw [Bool.eq_iff_iff, isLex_iff, isLex_iff]
  exact ⟨fun ⟨p, hp, h1⟩ => ⟨p, h.mem_iff.1 hp, h1⟩, fun ⟨p, hp, h1⟩ => ⟨p, h.mem_iff.2 hp, h1⟩⟩
theorem lexOf_perm {l l' : List Pd} (h : l.Perm l') (s : ByteArray) : lexOf l s = lexOf l' s := by
  unfold lexOf; rw [isLex_perm h, isLex_perm h]
theorem Reach.sub {l l' : List Pd} {stp : Pd → List ByteArray} {a b : ByteArray} (h : ∀ p, p ∈ l → p ∈ l') (hr : Reach l stp a b) : Reach l' stp a b := by
  induction hr with
  | one hp hs hn => exact .one (h _ hp) hs hn
  | more _ hp hs hn ih => exact .more ih (h _ hp) hs hn
/-- Two productions that are not of one constructor. -/
def NoTw (p q : Pd) : Prop := ¬ (p.lex = false ∧ q.lex = false ∧ p.cons = q.cons ∧ emp q.cons = false)
theorem NoTw.symm {p q : Pd} (h : NoTw p q) : NoTw q p := fun ⟨h1, h2, h3, h4⟩ => h ⟨h2, h1, h3.symm, h3 ▸ h4⟩
theorem isCons_iff {s : ByteArray} {p : Pd} : isCons s p = true ↔ p.lex = false ∧ p.cons = s := by
  unfold isCons
  rw [Bool.and_eq_true, decide_eq_true_iff]
  cases p.lex <;> simp
theorem consIdx_cases (ps : List Pd) (s : ByteArray) : (consIdx ps s = -1 ∧ (emp s = true ∨ ∀ p ∈ ps, isCons s p = false)) ∨ (emp s = false ∧ ∃ k, ∃ hk : k < ps.length, consIdx ps s = (k : Int) ∧ isCons s ps[k] = true ∧ ∀ j (h : j < ps.length), j < k → isCons s ps[j] = false) := by
  unfold consIdx
  cases he : emp s
  · rw [if_neg (by decide)]
    rcases fIdx_spec (isCons s) ps 0 with ⟨h1, h2⟩ | ⟨k, hk, h1, h2, h3⟩
    · refine Or.inl ⟨h1, Or.inr fun p hp => ?_⟩
      obtain ⟨j, hj, rfl⟩ := List.mem_iff_getElem.1 hp
      exact h2 j hj
    · exact Or.inr ⟨rfl, k, hk, by rw [h1]; congr 1; omega, h2, h3⟩
  · rw [if_pos rfl]
    exact Or.inl ⟨rfl, Or.inl rfl⟩
theorem consIdx_neg (ps : List Pd) (s : ByteArray) : consIdx ps s < 0 ↔ emp s = true ∨ ∀ p ∈ ps, isCons s p = false := by
  rcases consIdx_cases ps s with ⟨h1, h2⟩ | ⟨he, k, hk, h1, h2, _⟩
  · rw [h1]; exact ⟨fun _ => h2, fun _ => by decide⟩
  · rw [h1]
    refine ⟨fun h => by omega, fun h => ?_⟩
    rcases h with h | h
    · rw [he] at h; cases h
    · rw [h _ (List.getElem_mem hk)] at h2; cases h2
theorem cons_iff (d : Df) : (∀ k (h : k < d.prods.length), consHit d k d.prods[k] = false) ↔ d.prods.Pairwise NoTw := by
  rw [List.pairwise_iff_getElem]
  constructor
  · rintro h i j hi hj hij ⟨h1, h2, h3, h4⟩
    have hc := h j hj
    have hci : isCons d.prods[j].cons d.prods[i] = true := isCons_iff.2 ⟨h1, h3⟩
    rcases consIdx_cases d.prods d.prods[j].cons with ⟨e1, e2⟩ | ⟨_, k, hk, e1, e2, e3⟩
    · rcases e2 with e2 | e2
      · rw [h4] at e2; cases e2
      · rw [e2 _ (List.getElem_mem hi)] at hci; cases hci
    · have hki : ¬ i < k := fun hik => by rw [e3 i hi hik] at hci; cases hci
      unfold consHit at hc
      rw [e1, h2, decide_eq_true (by omega), decide_eq_true (by omega)] at hc
      cases hc
  · intro h k hk
    cases hc : consHit d k d.prods[k] with
    | false => rfl
    | true =>
      exfalso
      unfold consHit at hc
      simp only [Bool.and_eq_true, decide_eq_true_eq, Bool.not_eq_true'] at hc
      obtain ⟨⟨h1, h2⟩, h3⟩ := hc
      rcases consIdx_cases d.prods d.prods[k].cons with ⟨e1, _⟩ | ⟨he, k0, hk0, e1, e2, _⟩
      · omega
      · have := isCons_iff.1 e2
        exact h k0 k hk0 hk (by omega) ⟨this.1, h1, this.2, he⟩
theorem rej_iff (d : Df) : (∀ k (h : k < d.rejects.length), rejHit d k d.rejects[k] = false) ↔ (∀ r ∈ d.rejects, rej0 d r = false ∧ ¬ ∃ s, Reach d.prods namesL r.by_ s ∧ s ∈ heldL d) ∧ d.rejects.Pairwise (fun r x => r.sort ≠ x.sort) := by
  have key : ∀ k r, rejHit d k r = false ↔ rej0 d r = false ∧ (∀ x ∈ d.rejects.take k, x.sort ≠ r.sort) ∧ ¬ ∃ s, Reach d.prods namesL r.by_ s ∧ s ∈ heldL d := by
    intro k r
    rw [← Bool.not_eq_true, rejHit_iff]
    unfold rejA
    rw [Bool.or_eq_true, List.any_eq_true]
    simp only [decide_eq_true_eq, not_or]
    constructor
    · rintro ⟨⟨h1, h2⟩, h3⟩
      exact ⟨by simpa using h1, fun x hx e => h2 ⟨x, hx, e⟩, h3⟩
    · rintro ⟨h1, h2, h3⟩
      exact ⟨⟨by simpa using h1, fun ⟨x, hx, e⟩ => h2 x hx e⟩, h3⟩
  rw [List.pairwise_iff_getElem]
  constructor
  · intro h
    refine ⟨fun r hr => ?_, fun i j hi hj hij e => ?_⟩
    · obtain ⟨k, hk, rfl⟩ := List.mem_iff_getElem.1 hr
      have := (key _ _).1 (h k hk)
      exact ⟨this.1, this.2.2⟩
    · have := ((key _ _).1 (h j hj)).2.1 d.rejects[i] (List.mem_iff_getElem.2 ⟨i, by rw [List.length_take]; omega, by rw [List.getElem_take]⟩)
      exact this e
  · rintro ⟨h1, h2⟩ k hk
    refine (key _ _).2 ⟨(h1 _ (List.getElem_mem hk)).1, fun x hx => ?_, (h1 _ (List.getElem_mem hk)).2⟩
    obtain ⟨i, hi, rfl⟩ := List.mem_iff_getElem.1 hx
    rw [List.length_take] at hi
    rw [List.getElem_take]
    exact h2 i k (by omega) hk (by omega)
theorem uniq {ps : List Pd} (h : ps.Pairwise NoTw) {p q : Pd} (hp : p ∈ ps) (hq : q ∈ ps) {s : ByteArray} (he : emp s = false) (h1 : isCons s p = true) (h2 : isCons s q = true) : p = q := by
  obtain ⟨i, hi, rfl⟩ := List.mem_iff_getElem.1 hp
  obtain ⟨j, hj, rfl⟩ := List.mem_iff_getElem.1 hq
  have a1 := isCons_iff.1 h1
  have a2 := isCons_iff.1 h2
  rw [List.pairwise_iff_getElem] at h
  rcases Nat.lt_trichotomy i j with e | e | e
  · exact absurd ⟨a1.1, a2.1, a1.2.trans a2.2.symm, by rw [a2.2]; exact he⟩ (h i j hi hj e)
  · subst e; rfl
  · exact absurd ⟨a2.1, a1.1, a2.2.trans a1.2.symm, by rw [a1.2]; exact he⟩ (h j i hj hi e)
theorem box_iff (d : Df) (hn : d.prods.Pairwise NoTw) : (∀ k (h : k < d.boxes.length), boxHit d k d.boxes[k] = false) ↔ (∀ x ∈ d.boxes, emp x.cons = false ∧ ∃ p ∈ d.prods, isCons x.cons p = true ∧ fitOk p x.items = true) ∧ d.boxes.Pairwise (fun x y => x.cons ≠ y.cons) := by
  have key : ∀ k x, boxHit d k x = false ↔ (emp x.cons = false ∧ ∃ p ∈ d.prods, isCons x.cons p = true ∧ fitOk p x.items = true) ∧ (∀ y ∈ d.boxes.take k, y.cons ≠ x.cons) := by
    intro k x
    unfold boxHit
    rw [Bool.or_eq_false_iff, Bool.or_eq_false_iff, decide_eq_false_iff_not]
    have hin : inB x.cons (metB d k) = false ↔ ∀ y ∈ d.boxes.take k, y.cons ≠ x.cons := by
      rw [← Bool.not_eq_true, inB_iff]
      unfold metB
      rw [List.mem_map]
      exact ⟨fun h y hy e => h ⟨y, hy, e⟩, fun h ⟨y, hy, e⟩ => h y hy e⟩
    rw [hin]
    rcases consIdx_cases d.prods x.cons with ⟨e1, e2⟩ | ⟨he, k0, hk0, e1, e2, _⟩
    · rw [e1]
      constructor
      · rintro ⟨⟨h1, _⟩, _⟩; exact absurd (by decide) h1
      · rintro ⟨⟨h1, p, hp, h2, _⟩, _⟩
        rcases e2 with e2 | e2
        · rw [h1] at e2; cases e2
        · rw [e2 p hp] at h2; cases h2
    · rw [e1, Int.toNat_natCast, List.getElem?_eq_getElem hk0]
      simp only [Bool.not_eq_false']
      constructor
      · rintro ⟨⟨_, h2⟩, h3⟩
        exact ⟨⟨he, _, List.getElem_mem hk0, e2, h3⟩, h2⟩
      · rintro ⟨⟨_, p, hp, h2, h3⟩, h4⟩
        have := uniq hn hp (List.getElem_mem hk0) he h2 e2
        subst this
        exact ⟨⟨by omega, h4⟩, h3⟩
  rw [List.pairwise_iff_getElem]
  constructor
  · intro h
    refine ⟨fun r hr => ?_, fun i j hi hj hij e => ?_⟩
    · obtain ⟨k, hk, rfl⟩ := List.mem_iff_getElem.1 hr
      exact ((key _ _).1 (h k hk)).1
    · exact ((key _ _).1 (h j hj)).2 d.boxes[i] (List.mem_iff_getElem.2 ⟨i, by rw [List.length_take]; omega, by rw [List.getElem_take]⟩) e
  · rintro ⟨h1, h2⟩ k hk
    refine (key _ _).2 ⟨h1 _ (List.getElem_mem hk), fun x hx => ?_⟩
    obtain ⟨i, hi, rfl⟩ := List.mem_iff_getElem.1 hx
    rw [List.length_take] at hi
    rw [List.getElem_take]
    exact h2 i k (by omega) hk (by omega)
theorem all_perm {α : Type} {l l' : List α} (h : l.Perm l') {p : α → Bool} (ha : l.all p = true) : l'.all p = true := by
  rw [List.all_eq_true] at ha ⊢
  exact fun x hx => ha x (h.mem_iff.2 hx)
/-- In whatever order things stand, a definition is right or not. -/
theorem OkD.perm {d : Df} {P : List Pd} {F : List Fl} {R : List Rj} {B : List Bx} (hP : d.prods.Perm P) (hF : d.follows.Perm F) (hR : d.rejects.Perm R) (hB : d.boxes.Perm B) (h : OkD d) : OkD ⟨d.start, d.layout, P, d.chains, F, R, B⟩ := by
  have hcons := (cons_iff d).1 h.cons
  have hconsP : P.Pairwise NoTw := (hP.pairwise_iff (fun h => NoTw.symm h)).1 hcons
  have hheld : ∀ s, s ∈ heldL ⟨d.start, d.layout, P, d.chains, F, R, B⟩ ↔ s ∈ heldL d := fun s => by
    unfold heldL
    rw [List.mem_append, List.mem_append, (hR.map Rj.sort).mem_iff, (hF.map Fl.sort).mem_iff]
  have hbad : badC ⟨d.start, d.layout, P, d.chains, F, R, B⟩ = badC d := by
    funext s
    unfold badC
    rw [Bool.eq_iff_iff, decide_eq_true_iff, decide_eq_true_iff, consIdx_neg, consIdx_neg]
    exact ⟨fun h => h.imp id (fun h p hp => h p (hP.mem_iff.1 hp)), fun h => h.imp id (fun h p hp => h p (hP.mem_iff.2 hp))⟩
  refine ⟨?_, ?_, ?_, ?_, ?_, ?_, ?_, ?_, ?_, ?_, ?_, ?_, ?_, ?_, ?_⟩
  · have hf := h.form
    unfold rightDfB at hf ⊢
    simp only [Bool.and_eq_true, decide_eq_true_eq] at hf ⊢
    exact ⟨hf.1, hf.2.1, by rw [← hP.length_eq]; exact hf.2.2.1, all_perm hP hf.2.2.2.1, hf.2.2.2.2.1, all_perm hF hf.2.2.2.2.2.1, all_perm hR hf.2.2.2.2.2.2.1, all_perm hB hf.2.2.2.2.2.2.2⟩
  · intro s hs
    rw [← lexOf_perm hP]
    obtain ⟨p, hp, e⟩ := (mem_sortsL s P).1 hs
    exact h.mixed s ((mem_sortsL s _).2 ⟨p, hP.mem_iff.2 hp, e⟩)
  · rw [← lexOf_perm hP]; exact h.start
  · rw [← lexOf_perm hP]; exact h.layout
  · intro s hs
    rw [← lexOf_perm hP]
    refine h.undef s ?_
    unfold usedL at hs ⊢
    rw [List.mem_append, List.mem_append] at hs ⊢
    exact hs.imp (fun h => h.imp (fun h => (hP.flatMap_right namesL).mem_iff.2 h) (fun h => (hF.map Fl.sort).mem_iff.2 h)) (fun h => (hR.flatMap_right rejN).mem_iff.2 h)
  · intro p hp
    have := h.kind p (hP.mem_iff.2 hp)
    unfold kindB at this ⊢
    rw [← this]
    congr 1
    funext s
    unfold kindS
    rw [isLex_perm hP]
  · exact (cons_iff ⟨d.start, d.layout, P, d.chains, F, R, B⟩).2 hconsP
  · exact fun p hp => h.brack p (hP.mem_iff.2 hp)
  · exact fun p hp => h.long p (hP.mem_iff.2 hp)
  · exact fun p hp => h.null p (hP.mem_iff.2 hp)
  · intro s hs hr
    obtain ⟨p, hp, e⟩ := (mem_sortsL s P).1 hs
    exact h.cycle s ((mem_sortsL s _).2 ⟨p, hP.mem_iff.2 hp, e⟩) (hr.sub (fun p hp => hP.mem_iff.2 hp))
  · have hr := (rej_iff d).1 h.rej
    refine (rej_iff ⟨d.start, d.layout, P, d.chains, F, R, B⟩).2 ⟨fun r hr2 => ?_, (hR.pairwise_iff (fun h e => h e.symm)).1 hr.2⟩
    have h1 := hr.1 r (hR.mem_iff.2 hr2)
    refine ⟨?_, fun ⟨s, hs1, hs2⟩ => h1.2 ⟨s, hs1.sub (fun p hp => hP.mem_iff.2 hp), (hheld s).1 hs2⟩⟩
    rw [← h1.1]
    unfold rej0
    rw [← isLex_perm hP, ← isLex_perm hP]
    congr 1
    rw [Bool.eq_iff_iff, inB_iff, inB_iff]
    exact hheld _
  · intro ch hc
    have := h.prio ch hc
    unfold prioF at this ⊢
    rw [hbad]; exact this
  · exact fun f hf => h.follow f (hF.mem_iff.2 hf)
  · have hb := (box_iff d hcons).1 h.box
    refine (box_iff ⟨d.start, d.layout, P, d.chains, F, R, B⟩ hconsP).2 ⟨fun x hx => ?_, (hB.pairwise_iff (fun h e => h e.symm)).1 hb.2⟩
    obtain ⟨he, p, hp, h1⟩ := hb.1 x (hB.mem_iff.2 hx)
    exact ⟨he, p, hP.mem_iff.1 hp, h1⟩
theorem OkD.perm_iff {d : Df} {P : List Pd} {F : List Fl} {R : List Rj} {B : List Bx} (hP : d.prods.Perm P) (hF : d.follows.Perm F) (hR : d.rejects.Perm R) (hB : d.boxes.Perm B) : OkD ⟨d.start, d.layout, P, d.chains, F, R, B⟩ ↔ OkD d :=
  ⟨fun h => OkD.perm (d := ⟨d.start, d.layout, P, d.chains, F, R, B⟩) hP.symm hF.symm hR.symm hB.symm h, OkD.perm hP hF hR hB⟩
end Go.Proofs.Ytalicfpcmcbdbaa
