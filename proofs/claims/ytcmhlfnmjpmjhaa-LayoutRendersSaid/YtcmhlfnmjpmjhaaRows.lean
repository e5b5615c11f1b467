/-
  NARROWER THAN 'FOR EVERY INPUT', by the rows' own cells (each row's printed sentence says how): LayoutRenders: loops · LayoutSame: loops · LayoutNest: loops · LayoutTexts: loops · LayoutBreaks: loops · LayoutFlat: loops.
  DERIVED. THE GIVEN ROWS OF THIS SEAT. 6 by the template 'for every input the law returns true; each argument reads behind the call as it read before'; 0 by the template 'total and deterministic' (their statements: YtcmhlfnmjpmjhaaTotals.lean).
  GIVEN WITH THE SEED: the statements are not yours to turn. If you find one false, say at which input.
  Laid BY PROGRAM, IN A SANDBOX (cutbox-rows.mjs): the forced cells as the released guide's own fill.sh prints them over the translation 601dc7d5b4526b60… (all of the seat's roots in one cut). By AI agents, Wed Nov 11 2026. No macro, syntax, notation, axiom, sorry.
-/
import Derived.Test.YtcmhlfnmjpmjhaaChecked
import GoSem.Claim
import GoSem.ClaimJoined
import GoSem.ClaimMapViews
import Derived.JoinedTies
import Derived.KernelRfl
namespace Go.Proofs.Ytcmhlfnmjpmjhaa
/- THE CELL 'sum', in the pinned program and in every row, IS THE sha256 OF THE DUMP (.gsa) THAT YtcmhlfnmjpmjhaaProg.lean LOADS. Nothing in Lean hashes anything: it is a label: what it is worth is what the hold of that sum in a sandbox is worth. -/
noncomputable def Try.pinned : Pinned := { name := "ytcmhlfnmjpmjhaa", sum := "601dc7d5b4526b60d251361ae9aed285cca0b9073b9fba76d75b68f47e53884d", checked := Try.checked }
namespace Rows
def none {H : Type} : Left H := { results := [], args := [] }

/-- 'tracerylaw14.LayoutRenders': WHATEVER THE INPUT: true; the input reads as it did. -/
def layoutRendersSpec : ChangeSpec := { name := "layoutRenders", fn := fun _ => fun
  | [d1, d2] => { results := [.lit (.bool true)], args := [d1, d2] }
  | _ => none }
def layoutRendersRow : OpenClaim := { program := "ytcmhlfnmjpmjhaa", sum := "601dc7d5b4526b60d251361ae9aed285cca0b9073b9fba76d75b68f47e53884d", func := "tracery/tracerylaw14.LayoutRenders", spec := "layoutRenders", inPlace := ["internal/bytealg.IndexByteString"], unfollowed := true, recurses := true, loops := true, apart := false }
def LayoutRendersSaid : Prop := layoutRendersRow.holds Try.pinned (OpenSpec.ofChange layoutRendersSpec)

/-- ITS FALSE NEIGHBOUR: 'it returns false'. Refute it at one input. -/
def layoutRendersWrong : ChangeSpec := { name := "layoutRenders", fn := fun _ => fun
  | [d1, d2] => { results := [.lit (.bool false)], args := [d1, d2] }
  | _ => none }
def LayoutRendersWrongFalsely : Prop := layoutRendersRow.holds Try.pinned (OpenSpec.ofChange layoutRendersWrong)

/-- 'tracerylaw14.LayoutSame': WHATEVER THE INPUT: true; the input reads as it did. -/
def layoutSameSpec : ChangeSpec := { name := "layoutSame", fn := fun _ => fun
  | [d1, d2, d3] => { results := [.lit (.bool true)], args := [d1, d2, d3] }
  | _ => none }
def layoutSameRow : OpenClaim := { program := "ytcmhlfnmjpmjhaa", sum := "601dc7d5b4526b60d251361ae9aed285cca0b9073b9fba76d75b68f47e53884d", func := "tracery/tracerylaw14.LayoutSame", spec := "layoutSame", inPlace := ["internal/bytealg.IndexByteString"], unfollowed := true, recurses := true, loops := true, apart := false }
def LayoutSameSaid : Prop := layoutSameRow.holds Try.pinned (OpenSpec.ofChange layoutSameSpec)

/-- ITS FALSE NEIGHBOUR: 'it returns false'. Refute it at one input. -/
def layoutSameWrong : ChangeSpec := { name := "layoutSame", fn := fun _ => fun
  | [d1, d2, d3] => { results := [.lit (.bool false)], args := [d1, d2, d3] }
  | _ => none }
def LayoutSameWrongFalsely : Prop := layoutSameRow.holds Try.pinned (OpenSpec.ofChange layoutSameWrong)

/-- 'tracerylaw14.LayoutNest': WHATEVER THE INPUT: true; the input reads as it did. -/
def layoutNestSpec : ChangeSpec := { name := "layoutNest", fn := fun _ => fun
  | [d1, d2, d3] => { results := [.lit (.bool true)], args := [d1, d2, d3] }
  | _ => none }
def layoutNestRow : OpenClaim := { program := "ytcmhlfnmjpmjhaa", sum := "601dc7d5b4526b60d251361ae9aed285cca0b9073b9fba76d75b68f47e53884d", func := "tracery/tracerylaw14.LayoutNest", spec := "layoutNest", inPlace := ["internal/bytealg.IndexByteString"], unfollowed := true, recurses := true, loops := true, apart := false }
def LayoutNestSaid : Prop := layoutNestRow.holds Try.pinned (OpenSpec.ofChange layoutNestSpec)

/-- ITS FALSE NEIGHBOUR: 'it returns false'. Refute it at one input. -/
def layoutNestWrong : ChangeSpec := { name := "layoutNest", fn := fun _ => fun
  | [d1, d2, d3] => { results := [.lit (.bool false)], args := [d1, d2, d3] }
  | _ => none }
def LayoutNestWrongFalsely : Prop := layoutNestRow.holds Try.pinned (OpenSpec.ofChange layoutNestWrong)

/-- 'tracerylaw14.LayoutTexts': WHATEVER THE INPUT: true; the input reads as it did. -/
def layoutTextsSpec : ChangeSpec := { name := "layoutTexts", fn := fun _ => fun
  | [d1, d2, d3] => { results := [.lit (.bool true)], args := [d1, d2, d3] }
  | _ => none }
def layoutTextsRow : OpenClaim := { program := "ytcmhlfnmjpmjhaa", sum := "601dc7d5b4526b60d251361ae9aed285cca0b9073b9fba76d75b68f47e53884d", func := "tracery/tracerylaw14.LayoutTexts", spec := "layoutTexts", inPlace := ["internal/bytealg.IndexByteString"], unfollowed := true, recurses := true, loops := true, apart := false }
def LayoutTextsSaid : Prop := layoutTextsRow.holds Try.pinned (OpenSpec.ofChange layoutTextsSpec)

/-- ITS FALSE NEIGHBOUR: 'it returns false'. Refute it at one input. -/
def layoutTextsWrong : ChangeSpec := { name := "layoutTexts", fn := fun _ => fun
  | [d1, d2, d3] => { results := [.lit (.bool false)], args := [d1, d2, d3] }
  | _ => none }
def LayoutTextsWrongFalsely : Prop := layoutTextsRow.holds Try.pinned (OpenSpec.ofChange layoutTextsWrong)

/-- 'tracerylaw14.LayoutBreaks': WHATEVER THE INPUT: true; the input reads as it did. -/
def layoutBreaksSpec : ChangeSpec := { name := "layoutBreaks", fn := fun _ => fun
  | [d1, d2] => { results := [.lit (.bool true)], args := [d1, d2] }
  | _ => none }
def layoutBreaksRow : OpenClaim := { program := "ytcmhlfnmjpmjhaa", sum := "601dc7d5b4526b60d251361ae9aed285cca0b9073b9fba76d75b68f47e53884d", func := "tracery/tracerylaw14.LayoutBreaks", spec := "layoutBreaks", inPlace := ["internal/bytealg.IndexByteString"], unfollowed := true, recurses := true, loops := true, apart := false }
def LayoutBreaksSaid : Prop := layoutBreaksRow.holds Try.pinned (OpenSpec.ofChange layoutBreaksSpec)

/-- ITS FALSE NEIGHBOUR: 'it returns false'. Refute it at one input. -/
def layoutBreaksWrong : ChangeSpec := { name := "layoutBreaks", fn := fun _ => fun
  | [d1, d2] => { results := [.lit (.bool false)], args := [d1, d2] }
  | _ => none }
def LayoutBreaksWrongFalsely : Prop := layoutBreaksRow.holds Try.pinned (OpenSpec.ofChange layoutBreaksWrong)

/-- 'tracerylaw14.LayoutFlat': WHATEVER THE INPUT: true; the input reads as it did. -/
def layoutFlatSpec : ChangeSpec := { name := "layoutFlat", fn := fun _ => fun
  | [d1, d2] => { results := [.lit (.bool true)], args := [d1, d2] }
  | _ => none }
def layoutFlatRow : OpenClaim := { program := "ytcmhlfnmjpmjhaa", sum := "601dc7d5b4526b60d251361ae9aed285cca0b9073b9fba76d75b68f47e53884d", func := "tracery/tracerylaw14.LayoutFlat", spec := "layoutFlat", inPlace := ["internal/bytealg.IndexByteString", "internal/abi.NoEscape"], unfollowed := true, recurses := true, loops := true, apart := false }
def LayoutFlatSaid : Prop := layoutFlatRow.holds Try.pinned (OpenSpec.ofChange layoutFlatSpec)

/-- ITS FALSE NEIGHBOUR: 'it returns false'. Refute it at one input. -/
def layoutFlatWrong : ChangeSpec := { name := "layoutFlat", fn := fun _ => fun
  | [d1, d2] => { results := [.lit (.bool false)], args := [d1, d2] }
  | _ => none }
def LayoutFlatWrongFalsely : Prop := layoutFlatRow.holds Try.pinned (OpenSpec.ofChange layoutFlatWrong)

/- THE SECOND FORM. 'bulk': how many values and letters a reading holds, each counted each time it is reached (what is shared counts as often as it is met; a slice's spare places count too). A statement '..UptoSaid' is the law's where the arguments, and the package variables that the reading takes, are together of bulk at most 1048576: NARROWER than '..Said'. Prove '..Said' where nothing that the law and all that it calls make is longer than what came in: it says more and counts as full. Else prove '..UptoSaid'. A law counts once. -/
mutual
def uptoBulk {H : Type} : DataW H → Nat
  | .lit (.string bytes) => bytes.length + 1
  | .lit _ => 1
  | .nil => 1
  | .ptr d => uptoBulk d + 1
  | .slice elems spare => uptoBulkAll elems + uptoBulkAll spare + 1
  | .agg parts => uptoBulkAll parts + 1
  | .iface _ d => uptoBulk d + 1
  | .map entries => uptoBulkEntries entries + 1
  | .held _ => 1
def uptoBulkAll {H : Type} : List (DataW H) → Nat
  | [] => 0
  | d :: r => uptoBulk d + uptoBulkAll r
def uptoBulkEntries {H : Type} : List (Lit × DataW H) → Nat
  | [] => 0
  | x :: r => uptoBulkEntry x + uptoBulkEntries r
def uptoBulkEntry {H : Type} : Lit × DataW H → Nat
  | (.string bytes, d) => bytes.length + uptoBulk d + 1
  | (_, d) => uptoBulk d + 1
 end
def uptoSmall : (H : Type) → List (DataW H) → Bool := fun _ ds => decide (uptoBulkAll ds ≤ 1048576)
def OpenSpec.upto (s : _root_.Go.ChangeSpec) : _root_.Go.OpenSpec := { _root_.Go.OpenSpec.ofChange s with cond := some uptoSmall }

/-- 'tracerylaw14.LayoutRenders', WHERE WHAT IT READS IS OF BULK AT MOST 1048576: true; the input reads as it did. -/
def layoutRendersUptoRow : OpenClaim := { program := "ytcmhlfnmjpmjhaa", sum := "601dc7d5b4526b60d251361ae9aed285cca0b9073b9fba76d75b68f47e53884d", func := "tracery/tracerylaw14.LayoutRenders", spec := "layoutRenders", inPlace := ["internal/bytealg.IndexByteString"], unfollowed := true, recurses := true, loops := true, apart := false, narrowed := true }
def LayoutRendersUptoSaid : Prop := layoutRendersUptoRow.holds Try.pinned (OpenSpec.upto layoutRendersSpec)

/-- 'tracerylaw14.LayoutSame', WHERE WHAT IT READS IS OF BULK AT MOST 1048576: true; the input reads as it did. -/
def layoutSameUptoRow : OpenClaim := { program := "ytcmhlfnmjpmjhaa", sum := "601dc7d5b4526b60d251361ae9aed285cca0b9073b9fba76d75b68f47e53884d", func := "tracery/tracerylaw14.LayoutSame", spec := "layoutSame", inPlace := ["internal/bytealg.IndexByteString"], unfollowed := true, recurses := true, loops := true, apart := false, narrowed := true }
def LayoutSameUptoSaid : Prop := layoutSameUptoRow.holds Try.pinned (OpenSpec.upto layoutSameSpec)

/-- 'tracerylaw14.LayoutNest', WHERE WHAT IT READS IS OF BULK AT MOST 1048576: true; the input reads as it did. -/
def layoutNestUptoRow : OpenClaim := { program := "ytcmhlfnmjpmjhaa", sum := "601dc7d5b4526b60d251361ae9aed285cca0b9073b9fba76d75b68f47e53884d", func := "tracery/tracerylaw14.LayoutNest", spec := "layoutNest", inPlace := ["internal/bytealg.IndexByteString"], unfollowed := true, recurses := true, loops := true, apart := false, narrowed := true }
def LayoutNestUptoSaid : Prop := layoutNestUptoRow.holds Try.pinned (OpenSpec.upto layoutNestSpec)

/-- 'tracerylaw14.LayoutTexts', WHERE WHAT IT READS IS OF BULK AT MOST 1048576: true; the input reads as it did. -/
def layoutTextsUptoRow : OpenClaim := { program := "ytcmhlfnmjpmjhaa", sum := "601dc7d5b4526b60d251361ae9aed285cca0b9073b9fba76d75b68f47e53884d", func := "tracery/tracerylaw14.LayoutTexts", spec := "layoutTexts", inPlace := ["internal/bytealg.IndexByteString"], unfollowed := true, recurses := true, loops := true, apart := false, narrowed := true }
def LayoutTextsUptoSaid : Prop := layoutTextsUptoRow.holds Try.pinned (OpenSpec.upto layoutTextsSpec)

/-- 'tracerylaw14.LayoutBreaks', WHERE WHAT IT READS IS OF BULK AT MOST 1048576: true; the input reads as it did. -/
def layoutBreaksUptoRow : OpenClaim := { program := "ytcmhlfnmjpmjhaa", sum := "601dc7d5b4526b60d251361ae9aed285cca0b9073b9fba76d75b68f47e53884d", func := "tracery/tracerylaw14.LayoutBreaks", spec := "layoutBreaks", inPlace := ["internal/bytealg.IndexByteString"], unfollowed := true, recurses := true, loops := true, apart := false, narrowed := true }
def LayoutBreaksUptoSaid : Prop := layoutBreaksUptoRow.holds Try.pinned (OpenSpec.upto layoutBreaksSpec)

/-- 'tracerylaw14.LayoutFlat', WHERE WHAT IT READS IS OF BULK AT MOST 1048576: true; the input reads as it did. -/
def layoutFlatUptoRow : OpenClaim := { program := "ytcmhlfnmjpmjhaa", sum := "601dc7d5b4526b60d251361ae9aed285cca0b9073b9fba76d75b68f47e53884d", func := "tracery/tracerylaw14.LayoutFlat", spec := "layoutFlat", inPlace := ["internal/bytealg.IndexByteString", "internal/abi.NoEscape"], unfollowed := true, recurses := true, loops := true, apart := false, narrowed := true }
def LayoutFlatUptoSaid : Prop := layoutFlatUptoRow.holds Try.pinned (OpenSpec.upto layoutFlatSpec)

end Rows
end Go.Proofs.Ytcmhlfnmjpmjhaa
