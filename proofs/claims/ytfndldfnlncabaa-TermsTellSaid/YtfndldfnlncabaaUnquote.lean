/- The walk of words.Unquote. -/
import Derived.Test.YtfndldfnlncabaaQuoted
namespace Go.Proofs.Ytfndldfnlncabaa
set_option linter.unnecessarySimpa false
set_option linter.deprecated false
open Go.RowKit
set_option linter.unusedVariables false
set_option linter.unusedSimpArgs false

/-- What Unquote hands back, of a text that begins with a quote. -/
def UPost (size : Nat) (B : Nat) (r : QR) (e : Ending) (w' : World) : Prop :=
  match r with
  | .ok bs [] => ∃ a cap, e = .returned (.tuple #[.slice a bs.length cap, fv 0 0]) ∧ RBo (fun k => B ≤ k) w' a bs
  | .ok _ (r :: rest) => e = .returned (.tuple #[.slice none 0 0, fv ((size - (r :: rest).length : Nat) : Int) 15])
  | .bad left code => e = .returned (.tuple #[.slice none 0 0, fv ((size - left : Nat) : Int) code]) ∧ (code = 11 ∨ code = 12)
  | .opened => e = .returned (.tuple #[.slice none 0 0, fv 0 13])

theorem unqL_code (n : Nat) : ∀ (l acc : List UInt8) (left : Nat) (code : Int), unqL n l acc = .bad left code → code = 11 ∨ code = 12 := by
  induction n with
  | zero => intro l acc left code h; simp [unqL] at h
  | succ n ih =>
    intro l acc left code h
    cases l with
    | nil => simp [unqL] at h
    | cons c r =>
      rw [unqL] at h
      split at h
      · cases h
      · split at h
        · split at h
          · injection h with h1 h2; exact .inr h2.symm
          · exact ih _ _ _ _ h
        · split at h
          · injection h with h1 h2; exact .inl h2.symm
          · exact ih _ _ _ _ h

theorem unqL_rest (n : Nat) : ∀ (l acc bs rest : List UInt8), unqL n l acc = .ok bs rest → rest.length < l.length := by
  induction n with
  | zero => intro l acc bs rest h; simp [unqL] at h
  | succ n ih =>
    intro l acc bs rest h
    cases l with
    | nil => simp [unqL] at h
    | cons c r =>
      rw [unqL] at h
      split at h
      · injection h with h1 h2; subst h2; simp
      · split at h
        · split at h
          · cases h
          · rename_i hn
            have := ih _ _ _ _ h
            rw [List.length_drop] at this
            omega
        · split at h
          · cases h
          · have := ih _ _ _ _ h
            simp only [List.length_cons]
            omega

set_option maxHeartbeats 2000000 in
set_option maxRecDepth 100000 in
theorem Unquote_any (s : ByteArray) (w : World) (hs : s.size ≤ 65536) (h0 : 0 < s.size) (hq : s[0]'h0 = 34) :
    Calls Try.prog 67 #[.string s] w fun e w' => UPost s.size w.heap.size (unqL s.size (s.data.toList.drop 1) []) e w' ∧ Below w.heap.size w w' := by
  have hQ := fun W => quoted_any s 0 W (by omega) h0
  obtain ⟨res, hres⟩ : ∃ res, unqL s.size (s.data.toList.drop 1) [] = res := ⟨_, rfl⟩
  rw [Nat.zero_add, hres] at hQ
  have HQ := hide hQ
  have hcode := fun left code h => unqL_code s.size (s.data.toList.drop 1) [] left code (hres.trans h)
  have hrest := fun bs rest h => unqL_rest s.size (s.data.toList.drop 1) [] bs rest (hres.trans h)
  rw [hres]
  rw [List.length_drop, size_len] at hrest
  have HC := hide hcode
  have HRS := hide hrest
  clear hres hQ hcode hrest
  have he2 : s.toList.isEmpty = false := by rw [ByteArray.toList_eq, List.isEmpty_eq_false_iff]; exact toList_ne h0
  have he : ¬ s.toList = [] := by intro e; rw [e] at he2; cases he2
  have hsI : ¬ (65536 : Int) < (s.size : Int) := by omega
  have hq1 : (((s[0]'h0).toNat : Int) != 34) = false := by rw [hq]; rfl
  have hone := hide ((Below.refl _ w).alloc (Nat.le_refl _) (Obj.cells #[Value.int IntKind.i64 0, Value.int IntKind.i64 0] 32))
  clear hq
  go_enter Try.func67, Try.ntmps67
  go_wp2_with fail
  refine (HQ.out _).mono ?_
  rintro e w1 ⟨hp, hb1⟩
  have hbl := (Blk.new w #[Value.int IntKind.i64 0, Value.int IntKind.i64 0] 32).below hb1
  have f0 : w1.cell? ⟨w.heap.size, 0, none⟩ = some (.int .i64 0) := hbl.cell 0
  have f1 : w1.cell? ⟨w.heap.size, 1, none⟩ = some (.int .i64 0) := hbl.cell 1
  have z0 := hbl.free 0
  have z1 := hbl.free 1
  have hlt := hbl.lt
  have HB1 := hide (below_next hone.out hb1)
  have hkb : w.heap.size + 1 ≤ w1.heap.size := hlt
  clear hbl hb1
  cases res with
  | ok bs rest =>
    obtain ⟨a, cap, rfl, hr⟩ := hp
    have hR := hide (show RBo (fun k => w.heap.size + 1 ≤ k) w1 a bs from by simpa using hr)
    have hrl := HRS.out bs rest rfl
    clear hr
    cases rest with
    | nil =>
      have hpos : ¬ ((s.size - ([] : List UInt8).length : Nat) : Int) < (s.size : Int) := by simp
      simp only [List.length_nil, Nat.sub_zero] at hpos ⊢
      unfold fv
      go_wp2_with fail
      go_region
      all_goals
        go_wp2_with fail
        refine bodyPost_ret (v := .tuple #[.slice a bs.length cap, fv 0 0]) (by simp [results, Try.results67, go_sem, f0, f1, fv, hlt]) rfl ?_
        refine ⟨⟨a, cap, rfl, ?_⟩, ?_⟩
        · refine RBo.weak (fun k (hk : w.heap.size + 1 ≤ k) => (by show w.heap.size ≤ k; omega)) (RBo.keep ?_ hR.out)
          repeat (first | exact Keep.refl _ _ | (refine Keep.drewS ?_) | (refine Keep.allocS ?_) | (refine Keep.setS ?_ (by omega)))
        · repeat (first | exact HB1.out | (refine Below.drew ?_) | (refine Below.alloc ?_ (by simp [size_setCell]; omega) _) | (refine Below.setCell ?_ (by exact Nat.le_refl _) _))
    | cons r rest =>
      have hpos : ((s.size - (r :: rest).length : Nat) : Int) < (s.size : Int) := by simp only [List.length_cons]; omega
      generalize hz : s.size - (r :: rest).length = z at hpos ⊢
      have HZ := hide hz
      clear hz
      unfold fv
      go_wp2_with fail
      refine bodyPost_ret (v := .tuple #[.slice none 0 0, fv (z : Int) 15]) (by simp [results, Try.results67, go_sem, f0, f1, fv, hlt]) rfl ?_
      refine ⟨?_, ?_⟩
      · show _ = Ending.returned (.tuple #[.slice none 0 0, fv ((s.size - (r :: rest).length : Nat) : Int) 15])
        rw [HZ.out]
      · repeat (first | exact HB1.out | (refine Below.drew ?_) | (refine Below.alloc ?_ (by simp [size_setCell]; omega) _) | (refine Below.setCell ?_ (by exact Nat.le_refl _) _))
  | bad left code =>
    have hcd := HC.out left code rfl
    have hc0 : (code == 0) = false := by rw [beq_eq_false_iff_ne]; omega
    have he' : e = Ending.returned (.tuple #[.slice none 0 0, .int .i64 0, fv ((s.size - left : Nat) : Int) code]) := hp
    subst he'
    have HCD := hide hcd
    generalize hz : s.size - left = z
    have HZ := hide hz
    clear hz hp hcd
    unfold fv
    go_wp2_with fail
    go_region
    all_goals
      go_wp2_with fail
      refine bodyPost_ret (v := .tuple #[.slice none 0 0, fv (z : Int) code]) (by simp [results, Try.results67, go_sem, f0, f1, fv, hlt]) rfl ?_
      refine ⟨⟨?_, HCD.out⟩, ?_⟩
      · show _ = Ending.returned (.tuple #[.slice none 0 0, fv ((s.size - left : Nat) : Int) code])
        rw [HZ.out]
      · repeat (first | exact HB1.out | (refine Below.drew ?_) | (refine Below.alloc ?_ (by simp [size_setCell]; omega) _) | (refine Below.setCell ?_ (by exact Nat.le_refl _) _))
  | opened =>
    have he' : e = Ending.returned (.tuple #[.slice none 0 0, .int .i64 0, fv 0 13]) := hp
    subst he'
    clear hp
    unfold fv
    go_wp2_with fail
    go_region
    all_goals
      go_wp2_with fail
      refine bodyPost_ret (v := .tuple #[.slice none 0 0, fv 0 13]) (by simp [results, Try.results67, go_sem, f0, f1, fv, hlt]) rfl ?_
      refine ⟨rfl, ?_⟩
      repeat (first | exact HB1.out | (refine Below.drew ?_) | (refine Below.alloc ?_ (by simp [size_setCell]; omega) _) | (refine Below.setCell ?_ (by exact Nat.le_refl _) _))
end Go.Proofs.Ytfndldfnlncabaa
