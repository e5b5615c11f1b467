/- Plain Lean with no program in sight: terms as data, names, quotes, how a term is written and read, how many parts it has. -/
set_option linter.unusedVariables false
set_option linter.unusedSimpArgs false
set_option linter.unnecessarySimpa false
set_option linter.deprecated false

/- Terms as data; plain functions on bytes: what letters, names and runs of letters are. -/
namespace Go.Proofs.Ytfndldfnlncabaa

/-- A term, as data. -/
inductive Tm where
  | mk (kind : Int) (cons : ByteArray) (text : List UInt8) (kids : List Tm)

def Tm.kind : Tm → Int | .mk k _ _ _ => k
def Tm.cons : Tm → ByteArray | .mk _ c _ _ => c
def Tm.text : Tm → List UInt8 | .mk _ _ t _ => t
def Tm.kids : Tm → List Tm | .mk _ _ _ ks => ks

theorem Tm.induct {P : Tm → Prop} (h : ∀ k c t ks, (∀ x ∈ ks, P x) → P (.mk k c t ks)) : ∀ t, P t
  | .mk k c t ks => h k c t ks fun x _ => Tm.induct h x

def greatB (c : Nat) : Bool := decide (65 ≤ c) && decide (c ≤ 90)
def smallB (c : Nat) : Bool := decide (97 ≤ c) && decide (c ≤ 122)
def digitB (c : Nat) : Bool := decide (48 ≤ c) && decide (c ≤ 57)
def alnumB (c : UInt8) : Bool := greatB c.toNat || smallB c.toNat || digitB c.toNat

/-- How long the letters and digits are with which a list begins. -/
def runLen (l : List UInt8) : Nat := (l.takeWhile alnumB).length

def isNameL (l : List UInt8) : Bool := !l.isEmpty && decide (l.length ≤ 32) && greatB (l.headD 0).toNat && l.all alnumB

theorem runLen_le (l : List UInt8) : runLen l ≤ l.length := by
  unfold runLen
  exact (List.takeWhile_sublist alnumB).length_le

theorem runLen_at (l : List UInt8) (p : Nat) (hp : p < l.length) (hall : ∀ i (h : i < l.length), i < p → alnumB l[i] = true) (hn : alnumB l[p] = false) : runLen l = p := by
  induction l generalizing p with
  | nil => simp at hp
  | cons a l ih =>
    cases p with
    | zero => simp at hn; simp [runLen, hn]
    | succ p =>
      have h0 : alnumB a = true := hall 0 (by simp) (by omega)
      have := ih p (by simpa using hp) (fun i h hi => hall (i + 1) (by simpa using h) (by omega)) hn
      simp only [runLen, List.takeWhile_cons, h0, if_true, List.length_cons] at this ⊢
      omega

theorem runLen_all (l : List UInt8) (hall : ∀ i (h : i < l.length), alnumB l[i] = true) : runLen l = l.length := by
  induction l with
  | nil => rfl
  | cons a l ih =>
    have h0 : alnumB a = true := hall 0 (by simp)
    have := ih (fun i h => hall (i + 1) (by simpa using h))
    simp only [runLen, List.takeWhile_cons, h0, if_true, List.length_cons] at this ⊢
    omega

theorem runLen_eq_length (l : List UInt8) : runLen l = l.length ↔ l.all alnumB = true := by
  induction l with
  | nil => simp [runLen]
  | cons a l ih =>
    simp only [runLen, List.takeWhile_cons, List.all_cons, List.length_cons] at ih ⊢
    cases h : alnumB a <;> simp_all

end Go.Proofs.Ytfndldfnlncabaa

/- Plain functions on bytes: how a text is put into quotes. -/
namespace Go.Proofs.Ytfndldfnlncabaa

/-- The hexadecimal digit of a number below 16. -/
def hexD (n : Nat) : UInt8 := if n < 10 then UInt8.ofNat (48 + n) else UInt8.ofNat (87 + n)
/-- How a byte is written in quotes. -/
def qByte (c : UInt8) : List UInt8 :=
  if c = 34 then [92, 34] else if c = 92 then [92, 92] else if c = 10 then [92, 110] else if c = 9 then [92, 116] else if c = 13 then [92, 114]
  else if c < 32 ∨ 126 < c then [92, 120, hexD (c.toNat / 16), hexD (c.toNat % 16)] else [c]
def qBytes (l : List UInt8) : List UInt8 := l.flatMap qByte
def quoteL (l : List UInt8) : List UInt8 := 34 :: qBytes l ++ [34]

theorem qByte_len (c : UInt8) : (qByte c).length ≤ 4 := by
  unfold qByte
  repeat' split
  all_goals simp
theorem qBytes_len (l : List UInt8) : (qBytes l).length ≤ 4 * l.length := by
  induction l with
  | nil => simp [qBytes]
  | cons a l ih =>
    have := qByte_len a
    simp only [qBytes, List.flatMap_cons, List.length_append, List.length_cons] at ih ⊢
    omega
theorem qBytes_take (l : List UInt8) (k : Nat) (h : k < l.length) : qBytes (l.take (k + 1)) = qBytes (l.take k) ++ qByte l[k] := by
  unfold qBytes
  rw [List.take_succ_eq_append_getElem h, List.flatMap_append]
  simp only [List.flatMap_cons, List.flatMap_nil, List.append_nil]
end Go.Proofs.Ytfndldfnlncabaa

/- Plain functions on bytes: how a text in quotes is read. -/
namespace Go.Proofs.Ytfndldfnlncabaa

/-- A hexadecimal digit's number; -1: it is none. -/
def valI (c : Int) : Int := if 48 ≤ c ∧ c ≤ 57 then c - 48 else if 97 ≤ c ∧ c ≤ 102 then c - 87 else if 65 ≤ c ∧ c ≤ 70 then c - 55 else -1

/-- The sign that begins with a backslash: its byte, and how long it is (0: none). -/
def escL : List UInt8 → UInt8 × Nat
  | _ :: b :: r =>
    if b = 34 ∨ b = 92 then (b, 2) else if b = 110 then (10, 2) else if b = 116 then (9, 2) else if b = 114 then (13, 2)
    else if b = 120 then (match r with | x :: y :: _ => if 0 ≤ valI x.toNat ∧ 0 ≤ valI y.toNat then (UInt8.ofNat (16 * valI x.toNat + valI y.toNat).toNat, 4) else (0, 0) | _ => (0, 0))
    else (0, 0)
  | _ => (0, 0)

/-- What reading a text in quotes comes to: what it says and what is left; or how much is left where it fails, and the error; or it is open. -/
inductive QR where
  | ok (bs rest : List UInt8)
  | bad (left : Nat) (code : Int)
  | opened

/-- Behind the opening quote, what has been read so far in acc; the first argument is how many rounds there may be. -/
def unqL : Nat → List UInt8 → List UInt8 → QR
  | 0, _, _ => .opened
  | _ + 1, [], _ => .opened
  | n + 1, c :: r, acc =>
    if c = 34 then .ok acc r
    else if c = 92 then (if (escL (c :: r)).2 = 0 then .bad (r.length + 1) 12 else unqL n ((c :: r).drop (escL (c :: r)).2) (acc ++ [(escL (c :: r)).1]))
    else if c < 32 ∨ 126 < c then .bad (r.length + 1) 11
    else unqL n r (acc ++ [c])

theorem valI_le (c : Int) : -1 ≤ valI c ∧ valI c ≤ 15 := by
  unfold valI
  repeat' split
  all_goals omega
theorem escL_len (l : List UInt8) : (escL l).2 ≤ l.length := by
  unfold escL
  repeat' split
  all_goals simp
end Go.Proofs.Ytfndldfnlncabaa

/- Plain functions: how a term's text is read. -/
namespace Go.Proofs.Ytfndldfnlncabaa

def blankB (c : UInt8) : Bool := c == 32 || c == 9 || c == 10 || c == 13
/-- What is left behind blanks. -/
def skipL (l : List UInt8) : List UInt8 := l.dropWhile blankB

/-- What reading comes to: the thing and what is left; or how much is left where it fails, and the error. -/
inductive PR (α : Type) where
  | ok (a : α) (rest : List UInt8)
  | bad (left : Nat) (code : Int)

/-- The next byte that is no blank (it stays). -/
def peekL (l : List UInt8) : PR UInt8 :=
  match skipL l with
  | [] => .bad 0 14
  | c :: r => .ok c (c :: r)

/-- A name. -/
def nameL (l : List UInt8) : PR (List UInt8) := if runLen l ≤ 32 then .ok (l.take (runLen l)) (l.drop (runLen l)) else .bad l.length 20

/-- A text in quotes, at its opening quote. -/
def quotL (l : List UInt8) : PR (List UInt8) :=
  match unqL l.length (l.drop 1) [] with
  | .ok bs rest => .ok bs rest
  | .bad left code => .bad left code
  | .opened => .bad l.length 13

/-- Terms up to a sign, what has been read so far in acc; f reads one; the first number is how many there may be. -/
def listL (f : List UInt8 → PR Tm) (e : UInt8) : Nat → List UInt8 → List Tm → PR (List Tm)
  | 0, l, _ => .bad l.length 11
  | n + 1, l, acc =>
    match f l with
    | .bad m c => .bad m c
    | .ok T r =>
      match peekL r with
      | .bad m c => .bad m c
      | .ok c r2 => if c = e then .ok (acc ++ [T]) (r2.drop 1) else if c = 44 then listL f e n (r2.drop 1) (acc ++ [T]) else .bad r2.length 11

/-- Behind the opening sign; emp: there may be none. -/
def listsL (f : List UInt8 → PR Tm) (e : UInt8) (emp : Bool) (l : List UInt8) : PR (List Tm) :=
  if emp then
    match peekL l with
    | .bad m c => .bad m c
    | .ok c r => if c = e then .ok [] (r.drop 1) else listL f e (l.length + 1) r []
  else listL f e (l.length + 1) l []

def emptyB : ByteArray := ⟨#[]⟩

/-- The signs with which a term may begin. -/
def signB (c : UInt8) : Bool := c == 34 || c == 91 || c == 45 || c == 63 || greatB c.toNat

/-- A term, with so many levels. -/
def termL : Nat → List UInt8 → PR Tm
  | n, l =>
    match peekL l with
    | .bad m c => .bad m c
    | .ok c r =>
      if signB c = false then .bad r.length 11
      else match n with
        | 0 => .bad r.length 2
        | n + 1 =>
          if c = 34 then (match quotL r with | .bad m c => .bad m c | .ok bs r2 => .ok (.mk 2 emptyB bs []) r2)
          else if c = 91 then (match listsL (termL n) 93 true (r.drop 1) with | .bad m c => .bad m c | .ok ks r2 => .ok (.mk 3 emptyB [] ks) r2)
          else if c = 45 then .ok (.mk 4 emptyB [] []) (r.drop 1)
          else if c = 63 then (match termL n (r.drop 1) with | .bad m c => .bad m c | .ok T r2 => .ok (.mk 5 emptyB [] [T]) r2)
          else
            match nameL r with
            | .bad m c => .bad m c
            | .ok nm r2 =>
              match skipL r2 with
              | [] => .ok (.mk 1 ⟨nm.toArray⟩ [] []) []
              | d :: r3 =>
                if d = 40 then (match listsL (termL n) 41 false r3 with | .bad m c => .bad m c | .ok ks r4 => .ok (.mk 1 ⟨nm.toArray⟩ [] ks) r4)
                else .ok (.mk 1 ⟨nm.toArray⟩ [] []) (d :: r3)

/-- A term's text: the term, or the place and the error (of a text of so many bytes). -/
def parseL (l : List UInt8) : PR Tm :=
  match termL 200 l with
  | .bad m c => .bad m c
  | .ok T r => match skipL r with | [] => .ok T [] | d :: r2 => .bad (d :: r2).length 15

theorem skipL_suffix (l : List UInt8) : skipL l <:+ l := List.dropWhile_suffix _
end Go.Proofs.Ytfndldfnlncabaa

/- Plain functions on terms: how one is written, as long as there is room; how long that may be. -/
namespace Go.Proofs.Ytfndldfnlncabaa

mutual
/-- A term written behind what is written already. -/
def wrT : Tm → List UInt8 → List UInt8
  | .mk k c t ks, acc =>
    if k = 1 then (if ks.length = 0 then acc ++ c.data.toList else wrL true ks (acc ++ c.data.toList ++ [40]) ++ [41])
    else if k = 2 then acc ++ quoteL t
    else if k = 3 then wrL true ks (acc ++ [91]) ++ [93]
    else if k = 4 then acc ++ [45]
    else if k = 5 then wrH ks (acc ++ [63])
    else acc
def wrL : Bool → List Tm → List UInt8 → List UInt8
  | _, [], acc => acc
  | first, x :: xs, acc => wrL false xs (if (if first then acc else acc ++ [44]).length ≤ 65536 then wrT x (if first then acc else acc ++ [44]) else (if first then acc else acc ++ [44]))
def wrH : List Tm → List UInt8 → List UInt8
  | [], acc => acc
  | x :: _, acc => wrT x acc
end

mutual
/-- A bound of a term's text. -/
def vol : Tm → Nat
  | .mk _ c t ks => c.size + 4 * t.length + 8 + volL ks
def volL : List Tm → Nat
  | [] => 0
  | x :: xs => 1 + vol x + volL xs
end

mutual
theorem wrT_len : ∀ (T : Tm) (acc : List UInt8), (wrT T acc).length ≤ acc.length + vol T
  | .mk k c t ks, acc => by
    have hq : (quoteL t).length ≤ 4 * t.length + 2 := by
      have := qBytes_len t
      simp [quoteL]
      omega
    have hc : c.data.toList.length = c.size := by simp
    have h1 := wrL_len true ks (acc ++ c.data.toList ++ [40])
    have h3 := wrL_len true ks (acc ++ [91])
    have h5 := wrH_len ks (acc ++ [63])
    rw [wrT, vol]
    simp only [List.length_append, List.length_cons, List.length_nil] at h1 h3 h5
    repeat' split
    all_goals ((try simp only [List.length_append, List.length_cons, List.length_nil]); omega)
theorem wrL_len : ∀ (first : Bool) (ks : List Tm) (acc : List UInt8), (wrL first ks acc).length ≤ acc.length + volL ks
  | _, [], acc => by rw [wrL, volL]; omega
  | first, x :: xs, acc => by
    rw [wrL, volL]
    have h0 : (if first then acc else acc ++ [44]).length ≤ acc.length + 1 := by split <;> simp
    revert h0
    generalize (if first then acc else acc ++ [44]) = a1
    intro h0
    have h1 := wrT_len x a1
    have h3 : (if a1.length ≤ 65536 then wrT x a1 else a1).length ≤ acc.length + 1 + vol x := by
      split <;> omega
    have h2 := wrL_len false xs (if a1.length ≤ 65536 then wrT x a1 else a1)
    omega
theorem wrH_len : ∀ (ks : List Tm) (acc : List UInt8), (wrH ks acc).length ≤ acc.length + volL ks
  | [], acc => by rw [wrH, volL]; omega
  | x :: xs, acc => by
    rw [wrH, volL]
    have := wrT_len x acc
    omega
end
end Go.Proofs.Ytfndldfnlncabaa

/- Plain functions: how many terms a term is made of, how deep it is; and the reference's own reckoning of parts. -/
namespace Go.Proofs.Ytfndldfnlncabaa

mutual
/-- How many terms. -/
def cnt : Tm → Nat
  | .mk _ _ _ ks => 1 + cntL ks
def cntL : List Tm → Nat
  | [] => 0
  | x :: xs => cnt x + cntL xs
end
mutual
/-- How deep. -/
def dep : Tm → Nat
  | .mk _ _ _ ks => depL ks + 1
def depL : List Tm → Nat
  | [] => 0
  | x :: xs => max (dep x) (depL xs)
end
mutual
/-- The parts, as far as one counts. -/
def parts : Tm → Int → Int
  | .mk _ _ t ks, most => partsL ks (1 + (t.length / 64 : Nat)) most
def partsL : List Tm → Int → Int → Int
  | [], n, _ => n
  | x :: xs, n, most => if n ≤ most then partsL xs (n + parts x (most - n)) most else n
end

/-- Going through a list from the left. -/
def depF (d : Nat) : List Tm → Nat
  | [] => d
  | x :: xs => depF (max d (dep x)) xs
theorem depF_eq (ks : List Tm) : ∀ d, depF d ks = max d (depL ks) := by
  induction ks with
  | nil => intro d; simp [depF, depL]
  | cons x xs ih => intro d; rw [depF, ih, depL]; omega
theorem cntL_drop (ks : List Tm) (k : Nat) (hk : k < ks.length) : cntL (ks.drop k) = cnt ks[k] + cntL (ks.drop (k + 1)) := by
  rw [List.drop_eq_getElem_cons hk, cntL]
theorem depF_drop (ks : List Tm) (k d : Nat) (hk : k < ks.length) : depF d (ks.drop k) = depF (max d (dep ks[k])) (ks.drop (k + 1)) := by
  rw [List.drop_eq_getElem_cons hk, depF]
theorem cntL_mem {x : Tm} : ∀ {ks : List Tm}, x ∈ ks → cnt x ≤ cntL ks
  | y :: ys, h => by
    rw [cntL]
    rcases List.mem_cons.1 h with rfl | h
    · omega
    · have := cntL_mem h; omega
mutual
theorem dep_le_cnt : ∀ T : Tm, dep T ≤ cnt T
  | .mk k c t ks => by rw [dep, cnt]; have := depL_le_cntL ks; omega
theorem depL_le_cntL : ∀ ks : List Tm, depL ks ≤ cntL ks
  | [] => by simp [depL, cntL]
  | x :: xs => by rw [depL, cntL]; have := dep_le_cnt x; have := depL_le_cntL xs; omega
end
theorem cnt_pos (T : Tm) : 1 ≤ cnt T := by cases T; rw [cnt]; omega
end Go.Proofs.Ytfndldfnlncabaa

/- Plain lemmas: what is left when a term has been read is the end of what there was. -/
namespace Go.Proofs.Ytfndldfnlncabaa

/-- r is l's end, and shorter. -/
def Tail (r l : List UInt8) : Prop := r <:+ l ∧ r.length < l.length
theorem Tail.trans {a b c : List UInt8} (h : Tail a b) (k : b <:+ c) : Tail a c := ⟨h.1.trans k, Nat.lt_of_lt_of_le h.2 k.length_le⟩
theorem Tail.trans' {a b c : List UInt8} (h : a <:+ b) (k : Tail b c) : Tail a c := ⟨h.trans k.1, Nat.lt_of_le_of_lt h.length_le k.2⟩
theorem Tail.drop {l : List UInt8} (h : 0 < l.length) : Tail (l.drop 1) l := ⟨List.drop_suffix _ _, by rw [List.length_drop]; omega⟩
theorem Tail.cons (c : UInt8) (l : List UInt8) : Tail l (c :: l) := ⟨List.suffix_cons _ _, by simp⟩

theorem unqL_tail (n : Nat) : ∀ (l acc bs rest : List UInt8), unqL n l acc = .ok bs rest → Tail rest l := by
  induction n with
  | zero => intro l acc bs rest h; simp [unqL] at h
  | succ n ih =>
    intro l acc bs rest h
    cases l with
    | nil => simp [unqL] at h
    | cons c r =>
      rw [unqL] at h
      split at h
      · injection h with h1 h2; subst h2; exact Tail.cons _ _
      · split at h
        · split at h
          · cases h
          · exact (ih _ _ _ _ h).trans (List.drop_suffix _ _)
        · split at h
          · cases h
          · exact (ih _ _ _ _ h).trans (List.suffix_cons _ _)

theorem peekL_ok {l : List UInt8} {c : UInt8} {r : List UInt8} (h : peekL l = .ok c r) : skipL l = r ∧ ∃ r', r = c :: r' := by
  unfold peekL at h
  split at h
  · cases h
  · rename_i c' r' e
    injection h with h1 h2
    subst h1 h2
    exact ⟨e, _, rfl⟩
theorem peekL_suffix {l : List UInt8} {c : UInt8} {r : List UInt8} (h : peekL l = .ok c r) : r <:+ l := by
  rw [← (peekL_ok h).1]
  exact skipL_suffix l

theorem quotL_tail {l bs r : List UInt8} (h : quotL l = .ok bs r) : Tail r l := by
  unfold quotL at h
  split at h
  · rename_i e
    injection h with h1 h2
    subst h1 h2
    exact (unqL_tail _ _ _ _ _ e).trans (List.drop_suffix _ _)
  · cases h
  · cases h

theorem listL_tail {f : List UInt8 → PR Tm} {e : UInt8} (hf : ∀ l T r, f l = .ok T r → Tail r l) (n : Nat) : ∀ (l : List UInt8) (acc ks : List Tm) (r : List UInt8), listL f e n l acc = .ok ks r → Tail r l := by
  induction n with
  | zero => intro l acc ks r h; simp [listL] at h
  | succ n ih =>
    intro l acc ks r h
    rw [listL] at h
    split at h
    · cases h
    · rename_i T r1 e1
      split at h
      · cases h
      · rename_i c r2 e2
        have h1 := hf _ _ _ e1
        have h2 := peekL_suffix e2
        split at h
        · injection h with h3 h4
          subst h4
          exact Tail.trans' ((List.drop_suffix _ _).trans h2) h1
        · split at h
          · exact (ih _ _ _ _ h).trans (((List.drop_suffix _ _).trans h2).trans h1.1)
          · cases h

theorem listsL_tail {f : List UInt8 → PR Tm} {e : UInt8} (hf : ∀ l T r, f l = .ok T r → Tail r l) {emp : Bool} {l : List UInt8} {ks : List Tm} {r : List UInt8} (h : listsL f e emp l = .ok ks r) : Tail r l := by
  unfold listsL at h
  split at h
  · split at h
    · cases h
    · rename_i c r2 e2
      have h2 := peekL_suffix e2
      split at h
      · injection h with h3 h4
        subst h4
        obtain ⟨_, r', e3⟩ := peekL_ok e2
        exact (Tail.drop (by rw [e3]; simp)).trans h2
      · exact (listL_tail hf _ _ _ _ _ h).trans h2
  · exact listL_tail hf _ _ _ _ _ h

theorem termL_tail (n : Nat) : ∀ (l : List UInt8) (T : Tm) (r : List UInt8), termL n l = .ok T r → Tail r l := by
  induction n with
  | zero =>
    intro l T r h
    rw [termL] at h
    split at h
    · cases h
    · split at h <;> cases h
  | succ n ih =>
    intro l T r h
    rw [termL] at h
    split at h
    · cases h
    · rename_i c r1 e1
      have h1 := peekL_suffix e1
      obtain ⟨_, r', e3⟩ := peekL_ok e1
      have hd : Tail (r1.drop 1) l := (Tail.drop (by rw [e3]; simp)).trans h1
      split at h
      · cases h
      · rename_i hs
        simp only at h
        split at h
        · split at h
          · cases h
          · rename_i e2
            injection h with _ h4
            subst h4
            exact (quotL_tail e2).trans h1
        · split at h
          · split at h
            · cases h
            · rename_i e2
              injection h with _ h4
              subst h4
              exact (listsL_tail ih e2).trans hd.1
          · split at h
            · injection h with _ h4
              subst h4
              exact hd
            · split at h
              · split at h
                · cases h
                · rename_i e2
                  injection h with _ h4
                  subst h4
                  exact (ih _ _ _ e2).trans hd.1
              · rename_i n1 n2 n3 n4
                split at h
                · cases h
                · rename_i nm r2 e2
                  have ht : Tail r2 l := by
                    unfold nameL at e2
                    split at e2
                    · injection e2 with _ h5
                      subst h5
                      refine Tail.trans ⟨List.drop_suffix _ _, ?_⟩ h1
                      rw [List.length_drop, e3]
                      have hg : greatB c.toNat = true := by
                        simp [signB, n1, n2, n3, n4] at hs
                        exact hs
                      have ha : alnumB c = true := by unfold alnumB; rw [hg]; rfl
                      have : 1 ≤ runLen (c :: r') := by
                        simp [runLen, List.takeWhile_cons, ha]
                      simp only [List.length_cons]
                      omega
                    · cases e2
                  have hsk := skipL_suffix r2
                  split at h
                  · injection h with _ h4
                    subst h4
                    exact Tail.trans' (List.nil_suffix) ht
                  · rename_i d r3 e4
                    rw [e4] at hsk
                    split at h
                    · split at h
                      · cases h
                      · rename_i e5
                        injection h with _ h4
                        subst h4
                        exact (listsL_tail ih e5).trans ((List.suffix_cons _ _).trans (hsk.trans ht.1))
                    · injection h with _ h4
                      subst h4
                      exact Tail.trans' hsk ht
end Go.Proofs.Ytfndldfnlncabaa
