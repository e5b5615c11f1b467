/- A production that stands twice. -/
import Derived.Test.YtalicfpcmcbdbaaZPerm
set_option linter.unusedVariables false
set_option linter.unusedSimpArgs false
set_option linter.unnecessarySimpa false
set_option linter.deprecated false
namespace Go.Proofs.Ytalicfpcmcbdbaa
open Go.RowKit

/-- The same productions, at most 200 of them, no two of one constructor: it stays right. -/
theorem OkD.mems {d : Df} {P : List Pd} (hP : ∀ q, q ∈ d.prods ↔ q ∈ P) (hl : P.length ≤ 200) (hn : P.Pairwise NoTw) (h : OkD d) : OkD ⟨d.start, d.layout, P, d.chains, d.follows, d.rejects, d.boxes⟩ := by
  have hcons := (cons_iff d).1 h.cons
  have hlx : ∀ s b, isLex d.prods s b = isLex P s b := fun s b => by
    rw [Bool.eq_iff_iff, isLex_iff, isLex_iff]
    exact ⟨fun ⟨p, hp, h1⟩ => ⟨p, (hP p).1 hp, h1⟩, fun ⟨p, hp, h1⟩ => ⟨p, (hP p).2 hp, h1⟩⟩
  have hlo : ∀ s, lexOf d.prods s = lexOf P s := fun s => by unfold lexOf; rw [hlx, hlx]
  have hbad : badC ⟨d.start, d.layout, P, d.chains, d.follows, d.rejects, d.boxes⟩ = badC d := by
    funext s
    unfold badC
    rw [Bool.eq_iff_iff, decide_eq_true_iff, decide_eq_true_iff, consIdx_neg, consIdx_neg]
    exact ⟨fun h => h.imp id (fun h p hp => h p ((hP p).1 hp)), fun h => h.imp id (fun h p hp => h p ((hP p).2 hp))⟩
  refine ⟨?_, ?_, ?_, ?_, ?_, ?_, ?_, ?_, ?_, ?_, ?_, ?_, ?_, ?_, ?_⟩
  · have hf := h.form
    unfold rightDfB at hf ⊢
    simp only [Bool.and_eq_true, decide_eq_true_eq] at hf ⊢
    refine ⟨hf.1, hf.2.1, hl, ?_, hf.2.2.2.2⟩
    have h4 := hf.2.2.2.1
    rw [List.all_eq_true] at h4 ⊢
    exact fun x hx => h4 x ((hP x).2 hx)
  · intro s hs
    rw [← hlo]
    obtain ⟨p, hp, e⟩ := (mem_sortsL s P).1 hs
    exact h.mixed s ((mem_sortsL s _).2 ⟨p, (hP p).2 hp, e⟩)
  · rw [← hlo]; exact h.start
  · rw [← hlo]; exact h.layout
  · intro s hs
    rw [← hlo]
    refine h.undef s ?_
    unfold usedL at hs ⊢
    rw [List.mem_append, List.mem_append] at hs ⊢
    exact hs.imp (fun h => h.imp (fun h => by
      obtain ⟨p, hp, hn⟩ := List.mem_flatMap.1 h
      exact List.mem_flatMap.2 ⟨p, (hP p).2 hp, hn⟩) id) id
  · intro p hp
    have := h.kind p ((hP p).2 hp)
    unfold kindB at this ⊢
    rw [← this]
    congr 1
    funext s
    unfold kindS
    rw [hlx]
  · exact (cons_iff ⟨d.start, d.layout, P, d.chains, d.follows, d.rejects, d.boxes⟩).2 hn
  · exact fun p hp => h.brack p ((hP p).2 hp)
  · exact fun p hp => h.long p ((hP p).2 hp)
  · exact fun p hp => h.null p ((hP p).2 hp)
  · intro s hs hr
    obtain ⟨p, hp, e⟩ := (mem_sortsL s P).1 hs
    exact h.cycle s ((mem_sortsL s _).2 ⟨p, (hP p).2 hp, e⟩) (hr.sub (fun p hp => (hP p).2 hp))
  · have hr := (rej_iff d).1 h.rej
    refine (rej_iff ⟨d.start, d.layout, P, d.chains, d.follows, d.rejects, d.boxes⟩).2 ⟨fun r hr2 => ?_, hr.2⟩
    have h1 := hr.1 r hr2
    refine ⟨?_, fun ⟨s, hs1, hs2⟩ => h1.2 ⟨s, hs1.sub (fun p hp => (hP p).2 hp), hs2⟩⟩
    rw [← h1.1]
    unfold rej0
    rw [← hlx, ← hlx]
    rfl
  · intro ch hc
    have := h.prio ch hc
    unfold prioF at this ⊢
    rw [hbad]; exact this
  · exact h.follow
  · have hb := (box_iff d hcons).1 h.box
    refine (box_iff ⟨d.start, d.layout, P, d.chains, d.follows, d.rejects, d.boxes⟩ hn).2 ⟨fun x hx => ?_, hb.2⟩
    obtain ⟨he, p, hp, h1⟩ := hb.1 x hx
    exact ⟨he, p, (hP p).1 hp, h1⟩
theorem OkD.prod {d : Df} (h : OkD d) {p : Pd} (hp : p ∈ d.prods) : rightPdB p = true := by
  have hf := h.form
  unfold rightDfB at hf
  simp only [Bool.and_eq_true] at hf
  exact List.all_eq_true.1 hf.2.2.2.1 p hp
theorem OkD.brEmp {d : Df} (h : OkD d) {p : Pd} (hp : p ∈ d.prods) (hl : p.lex = false) : p.bracket = emp p.cons := by
  have hr := h.prod hp
  unfold rightPdB at hr
  simp only [Bool.and_eq_true] at hr
  have h5 := hr.1.2
  rw [hl] at h5
  cases hb : p.bracket <;> cases he : emp p.cons <;> rw [hb, he] at h5 <;> simp at h5 <;> rfl
/-- A production that stands twice, which is lexical or a bracket. -/
theorem OkD.dup {d : Df} (h : OkD d) {p : Pd} (hp : p ∈ d.prods) (hl : d.prods.length < 200) (hq : p.lex = true ∨ p.bracket = true) : OkD ⟨d.start, d.layout, d.prods ++ [p], d.chains, d.follows, d.rejects, d.boxes⟩ := by
  refine h.mems (fun q => ?_) (by rw [List.length_append]; simp; omega) ?_
  · rw [List.mem_append]
    exact ⟨Or.inl, fun h => h.elim id (fun h => by simp at h; subst h; exact hp)⟩
  · rw [List.pairwise_append]
    refine ⟨(cons_iff d).1 h.cons, List.pairwise_singleton _ _, fun q _ r hr => ?_⟩
    simp at hr
    subst hr
    rintro ⟨_, h2, _, h4⟩
    rcases hq with hq | hq
    · rw [h2] at hq; cases hq
    · have := h.brEmp hp h2
      rw [hq, h4] at this; cases this
theorem runC_cons {x : Int × ByteArray} {l : List (Int × ByteArray)} (h : x.1 = 0) : runC (x :: l) = runC l := by rw [runC, if_pos h]
theorem runC_stop {x : Int × ByteArray} {l : List (Int × ByteArray)} (h : x.1 ≠ 0) : runC (x :: l) = x := by rw [runC, if_neg h]
/-- One constructor's production twice: its name is told. -/
theorem dup_cons {d : Df} (h : OkD d) {p : Pd} (hp : p ∈ d.prods) (hl : d.prods.length < 200) (h1 : p.lex = false) (h2 : p.bracket = false) : checkL ⟨d.start, d.layout, d.prods ++ [p], d.chains, d.follows, d.rejects, d.boxes⟩ = (45, p.cons) := by
  have hP : ∀ q, q ∈ d.prods ↔ q ∈ d.prods ++ [p] := fun q => by
    rw [List.mem_append]
    exact ⟨Or.inl, fun h => h.elim id (fun h => by simp at h; subst h; exact hp)⟩
  have he : emp p.cons = false := by rw [← h.brEmp hp h1]; exact h2
  have hlx : ∀ s b, isLex d.prods s b = isLex (d.prods ++ [p]) s b := fun s b => by
    rw [Bool.eq_iff_iff, isLex_iff, isLex_iff]
    exact ⟨fun ⟨p, hp, h1⟩ => ⟨p, (hP p).1 hp, h1⟩, fun ⟨q, hp, h1⟩ => ⟨q, (hP q).2 hp, h1⟩⟩
  have hlo : ∀ s, lexOf d.prods s = lexOf (d.prods ++ [p]) s := fun s => by unfold lexOf; rw [hlx, hlx]
  unfold checkL looksL
  rw [runC_cons, runC_cons, runC_cons, runC_cons, runC_cons]
  · have hc : consLk ⟨d.start, d.layout, d.prods ++ [p], d.chains, d.follows, d.rejects, d.boxes⟩ = (45, p.cons) := by
      unfold consLk
      have hk : d.prods.length < (d.prods ++ [p]).length := by simp
      have hlast : (d.prods ++ [p])[d.prods.length] = p := by simp
      have hpw := (cons_iff d).1 h.cons
      rw [List.pairwise_iff_getElem] at hpw
      have hA : ∀ j (hj : j < (d.prods ++ [p]).length), j < d.prods.length → consHit ⟨d.start, d.layout, d.prods ++ [p], d.chains, d.follows, d.rejects, d.boxes⟩ (0 + j) (d.prods ++ [p])[j] = false := by
        intro j hj hjl
        rw [Nat.zero_add]
        cases hc : consHit ⟨d.start, d.layout, d.prods ++ [p], d.chains, d.follows, d.rejects, d.boxes⟩ j (d.prods ++ [p])[j] with
        | false => rfl
        | true =>
          exfalso
          unfold consHit at hc
          simp only [Bool.and_eq_true, decide_eq_true_eq, Bool.not_eq_true'] at hc
          obtain ⟨⟨c1, c2⟩, c3⟩ := hc
          rcases consIdx_cases (d.prods ++ [p]) (d.prods ++ [p])[j].cons with ⟨e1, _⟩ | ⟨he2, k0, hk0, e1, e2, _⟩
          · omega
          · have hk0l : k0 < d.prods.length := by omega
            have e3 := isCons_iff.1 e2
            simp only [List.getElem_append_left hjl, List.getElem_append_left hk0l] at c1 e3 he2
            exact hpw k0 j hk0l hjl (by omega) ⟨e3.1, c1, e3.2, he2⟩
      have hB : consHit ⟨d.start, d.layout, d.prods ++ [p], d.chains, d.follows, d.rejects, d.boxes⟩ (0 + d.prods.length) (d.prods ++ [p])[d.prods.length] = true := by
        rw [Nat.zero_add, hlast]
        obtain ⟨i, hi, hip⟩ := List.mem_iff_getElem.1 hp
        have hi2 : i < (d.prods ++ [p]).length := by rw [List.length_append]; omega
        have hic : isCons p.cons (d.prods ++ [p])[i] = true := by
          rw [List.getElem_append_left hi, hip]; exact isCons_iff.2 ⟨h1, rfl⟩
        unfold consHit
        rcases consIdx_cases (d.prods ++ [p]) p.cons with ⟨e1, e2⟩ | ⟨_, k0, hk0, e1, e2, e3⟩
        · rcases e2 with e2 | e2
          · rw [he] at e2; cases e2
          · rw [e2 _ (List.getElem_mem hi2)] at hic; cases hic
        · have hki : ¬ i < k0 := fun hik => by rw [e3 i hi2 hik] at hic; cases hic
          show (!p.lex && decide (0 ≤ consIdx (d.prods ++ [p]) p.cons) && decide (consIdx (d.prods ++ [p]) p.cons < (d.prods.length : Int))) = true
          rw [e1, h1, decide_eq_true (by omega), decide_eq_true (by omega)]; rfl
      rw [firstI_hit 45 _ Pd.cons (d.prods ++ [p]) 0 d.prods.length hk hA hB, hlast]
    rw [runC_stop (by rw [hc]; exact (by decide : (45 : Int) ≠ 0)), hc]
  · rw [firstG_ok 44 (by decide)]
    intro q hq
    have := h.kind q ((hP q).2 hq)
    unfold kindB at this ⊢
    rw [← this]
    congr 1
    funext s
    unfold kindS
    rw [hlx]
  · unfold undefL
    rw [firstL_ok 43 (by decide)]
    intro s hs
    rw [decide_eq_false_iff_not]
    show ¬ lexOf (d.prods ++ [p]) s = 0
    rw [← hlo]
    refine h.undef s ?_
    unfold usedL at hs ⊢
    rw [List.mem_append, List.mem_append] at hs ⊢
    exact hs.imp (fun h => h.imp (fun h => by
      obtain ⟨p, hp, hn⟩ := List.mem_flatMap.1 h
      exact List.mem_flatMap.2 ⟨p, (hP p).2 hp, hn⟩) id) id
  · unfold endsL
    rw [if_pos (by show lexOf (d.prods ++ [p]) d.start = 2; rw [← hlo]; exact h.start), if_pos (by show emp d.layout = true ∨ lexOf (d.prods ++ [p]) d.layout = 1; rw [← hlo]; exact h.layout)]; rfl
  · unfold mixedL
    rw [firstL_ok 42 (by decide)]
    intro s hs
    rw [decide_eq_false_iff_not]
    show ¬ lexOf (d.prods ++ [p]) s = 3
    rw [← hlo]
    obtain ⟨q, hq, e⟩ := (mem_sortsL s _).1 hs
    exact h.mixed s ((mem_sortsL s _).2 ⟨q, (hP q).2 hq, e⟩)
  · unfold formL
    rw [if_pos]
    · rfl
    · have hf := h.form
      unfold rightDfB at hf ⊢
      simp only [Bool.and_eq_true, decide_eq_true_eq] at hf ⊢
      refine ⟨hf.1, hf.2.1, by rw [List.length_append]; simp; omega, ?_, hf.2.2.2.2⟩
      have h4 := hf.2.2.2.1
      rw [List.all_eq_true] at h4 ⊢
      exact fun x hx => h4 x ((hP x).2 hx)
open Classical in
/-- A template for what is no constructor: that is told. -/
theorem dup_box {d : Df} (h : OkD d) {s : ByteArray} (hs : namedB s false = true) (hc : consIdx d.prods s < 0) : (checkL ⟨d.start, d.layout, d.prods, d.chains, d.follows, d.rejects, d.boxes ++ [⟨s, []⟩]⟩).1 = 52 := by
  have hb : boxL ⟨d.start, d.layout, d.prods, d.chains, d.follows, d.rejects, d.boxes ++ [⟨s, []⟩]⟩ = (52, s) := by
    unfold boxL
    have hk : d.boxes.length < (d.boxes ++ [(⟨s, []⟩ : Bx)]).length := by simp
    have hlast : (d.boxes ++ [(⟨s, []⟩ : Bx)])[d.boxes.length] = ⟨s, []⟩ := by simp
    have hA : ∀ j (hj : j < (d.boxes ++ [(⟨s, []⟩ : Bx)]).length), j < d.boxes.length → boxHit ⟨d.start, d.layout, d.prods, d.chains, d.follows, d.rejects, d.boxes ++ [⟨s, []⟩]⟩ (0 + j) (d.boxes ++ [(⟨s, []⟩ : Bx)])[j] = false := by
      intro j hj hjl
      have := h.box j hjl
      rw [Nat.zero_add, List.getElem_append_left hjl, ← this]
      unfold boxHit metB
      simp only
      rw [List.take_append_of_le_length (by omega)]
    have hB : boxHit ⟨d.start, d.layout, d.prods, d.chains, d.follows, d.rejects, d.boxes ++ [⟨s, []⟩]⟩ (0 + d.boxes.length) (d.boxes ++ [(⟨s, []⟩ : Bx)])[d.boxes.length] = true := by
      rw [hlast]
      unfold boxHit
      simp only
      rw [decide_eq_true hc]
      simp
    rw [firstI_hit 52 _ Bx.cons (d.boxes ++ [(⟨s, []⟩ : Bx)]) 0 d.boxes.length hk hA hB, hlast]
  unfold checkL looksL
  rw [runC_cons, runC_cons, runC_cons, runC_cons, runC_cons, runC_cons, runC_cons, runC_cons, runC_cons, runC_cons, runC_cons, runC_cons, runC_cons, hb, runC_stop (by exact (by decide : (52 : Int) ≠ 0))]
  · unfold followL; rw [firstG_ok 51 (by decide)]; exact fun f hf => decide_eq_false (h.follow f hf)
  · unfold prioL; rw [prioG_ok]; exact h.prio
  · unfold rejectL; rw [firstI_ok 49 (by decide)]
    intro k hk
    rw [Nat.zero_add]
    exact h.rej k hk
  · unfold cycleL; rw [firstL_ok 48 (by decide)]; exact fun s hs => decide_eq_false (h.cycle s hs)
  · rw [firstG_ok 47 (by decide)]; exact h.null
  · rw [firstG_ok 2 (by decide)]; exact h.long
  · rw [firstG_ok 46 (by decide)]; exact h.brack
  · unfold consLk; rw [firstI_ok 45 (by decide)]
    intro k hk
    rw [Nat.zero_add]
    exact h.cons k hk
  · rw [firstG_ok 44 (by decide)]; exact h.kind
  · unfold undefL; rw [firstL_ok 43 (by decide)]; exact fun s hs => decide_eq_false (h.undef s hs)
  · unfold endsL; rw [if_pos h.start, if_pos h.layout]; rfl
  · unfold mixedL; rw [firstL_ok 42 (by decide)]; exact fun s hs => decide_eq_false (h.mixed s hs)
  · unfold formL
    rw [if_pos]
    · rfl
    · have hf := h.form
      unfold rightDfB at hf ⊢
      simp only [Bool.and_eq_true, decide_eq_true_eq] at hf ⊢
      refine ⟨hf.1, hf.2.1, hf.2.2.1, hf.2.2.2.1, hf.2.2.2.2.1, hf.2.2.2.2.2.1, hf.2.2.2.2.2.2.1, ?_⟩
      rw [List.all_append, hf.2.2.2.2.2.2.2]
      simp [rightBxB, hs, rIs]
end Go.Proofs.Ytalicfpcmcbdbaa
