/- Plain functions: how a term's text is read. -/
import Derived.Test.YtfndldfnlncabaaUPlain
namespace Go.Proofs.Ytfndldfnlncabaa
set_option linter.unusedVariables false
set_option linter.unusedSimpArgs false
set_option linter.unnecessarySimpa false
set_option linter.deprecated false

def blankB (c : UInt8) : Bool := c == 32 || c == 9 || c == 10 || c == 13
/-- What is left behind blanks. -/
def skipL (l : List UInt8) : List UInt8 := l.dropWhile blankB

/-- What reading comes to: the thing and what is left; or how much is left where it fails, and the error. -/
inductive PR (α : Type) where
  | ok (a : α) (rest : List UInt8)
  | bad (left : Nat) (code : Int)

/-- The next byte that is no blank (it stays). -/
def peekL (l : List UInt8) : PR UInt8 :=
  match skipL l with
  | [] => .bad 0 14
  | c :: r => .ok c (c :: r)

/-- A name. -/
def nameL (l : List UInt8) : PR (List UInt8) := if runLen l ≤ 32 then .ok (l.take (runLen l)) (l.drop (runLen l)) else .bad l.length 20

/-- A text in quotes, at its opening quote. -/
def quotL (l : List UInt8) : PR (List UInt8) :=
  match unqL l.length (l.drop 1) [] with
  | .ok bs rest => .ok bs rest
  | .bad left code => .bad left code
  | .opened => .bad l.length 13

/-- Terms up to a sign, what has been read so far in acc; f reads one; the first number is how many there may be. -/
def listL (f : List UInt8 → PR Tm) (e : UInt8) : Nat → List UInt8 → List Tm → PR (List Tm)
  | 0, l, _ => .bad l.length 11
  | n + 1, l, acc =>
    match f l with
    | .bad m c => .bad m c
    | .ok T r =>
      match peekL r with
      | .bad m c => .bad m c
      | .ok c r2 => if c = e then .ok (acc ++ [T]) (r2.drop 1) else if c = 44 then listL f e n (r2.drop 1) (acc ++ [T]) else .bad r2.length 11

/-- Behind the opening sign; emp: there may be none. -/
def listsL (f : List UInt8 → PR Tm) (e : UInt8) (emp : Bool) (l : List UInt8) : PR (List Tm) :=
  if emp then
    match peekL l with
    | .bad m c => .bad m c
    | .ok c r => if c = e then .ok [] (r.drop 1) else listL f e (l.length + 1) r []
  else listL f e (l.length + 1) l []

def emptyB : ByteArray := ⟨#[]⟩

/-- The signs with which a term may begin. -/
def signB (c : UInt8) : Bool := c == 34 || c == 91 || c == 45 || c == 63 || greatB c.toNat

/-- A term, with so many levels. -/
def termL : Nat → List UInt8 → PR Tm
  | n, l =>
    match peekL l with
    | .bad m c => .bad m c
    | .ok c r =>
      if signB c = false then .bad r.length 11
      else match n with
        | 0 => .bad r.length 2
        | n + 1 =>
          if c = 34 then (match quotL r with | .bad m c => .bad m c | .ok bs r2 => .ok (.mk 2 emptyB bs []) r2)
          else if c = 91 then (match listsL (termL n) 93 true (r.drop 1) with | .bad m c => .bad m c | .ok ks r2 => .ok (.mk 3 emptyB [] ks) r2)
          else if c = 45 then .ok (.mk 4 emptyB [] []) (r.drop 1)
          else if c = 63 then (match termL n (r.drop 1) with | .bad m c => .bad m c | .ok T r2 => .ok (.mk 5 emptyB [] [T]) r2)
          else
            match nameL r with
            | .bad m c => .bad m c
            | .ok nm r2 =>
              match skipL r2 with
              | [] => .ok (.mk 1 ⟨nm.toArray⟩ [] []) []
              | d :: r3 =>
                if d = 40 then (match listsL (termL n) 41 false r3 with | .bad m c => .bad m c | .ok ks r4 => .ok (.mk 1 ⟨nm.toArray⟩ [] ks) r4)
                else .ok (.mk 1 ⟨nm.toArray⟩ [] []) (d :: r3)

/-- A term's text: the term, or the place and the error (of a text of so many bytes). -/
def parseL (l : List UInt8) : PR Tm :=
  match termL 200 l with
  | .bad m c => .bad m c
  | .ok T r => match skipL r with | [] => .ok T [] | d :: r2 => .bad (d :: r2).length 15

theorem skipL_suffix (l : List UInt8) : skipL l <:+ l := List.dropWhile_suffix _
end Go.Proofs.Ytfndldfnlncabaa
