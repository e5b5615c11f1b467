/-
  NARROWER THAN 'FOR EVERY INPUT', by the rows' own cells (each row's printed sentence says how): TermsWrites: loops · TermsBack: loops · TermsBlanks: loops · TermsSame: loops · TermsApart: loops · TermsWalk: loops · TermsParts: loops · TermsPut: loops · TermsTell: loops.
  DERIVED. THE GIVEN ROWS OF THIS SEAT. 9 by the template 'for every input the law returns true; each argument reads behind the call as it read before'; 0 by the template 'total and deterministic' (their statements: YtfndldfnlncabaaTotals.lean).
  GIVEN WITH THE SEED: the statements are not yours to turn. If you find one false, say at which input.
  Laid BY PROGRAM, IN A SANDBOX (cutbox-rows.mjs): the forced cells as the released guide's own fill.sh prints them over the translation c8d60aee4704c421… (all of the seat's roots in one cut). By AI agents, Wed Nov 11 2026. No macro, syntax, notation, axiom, sorry.
-/
import Derived.Test.YtfndldfnlncabaaChecked
import GoSem.Claim
import GoSem.ClaimJoined
import GoSem.ClaimMapViews
import Derived.JoinedTies
import Derived.KernelRfl
namespace Go.Proofs.Ytfndldfnlncabaa
/- THE CELL 'sum', in the pinned program and in every row, IS THE sha256 OF THE DUMP (.gsa) THAT YtfndldfnlncabaaProg.lean LOADS. Nothing in Lean hashes anything: it is a label: what it is worth is what the hold of that sum in a sandbox is worth. -/
noncomputable def Try.pinned : Pinned := { name := "ytfndldfnlncabaa", sum := "c8d60aee4704c4214a64fcf5b92f41266ea0fed9e08c1ce584d4542b66dfbcee", checked := Try.checked }
namespace Rows
def none {H : Type} : Left H := { results := [], args := [] }

/-- 'tracerylaw11.TermsWrites': WHATEVER THE INPUT: true; the input reads as it did. -/
def termsWritesSpec : ChangeSpec := { name := "termsWrites", fn := fun _ => fun
  | [d] => { results := [.lit (.bool true)], args := [d] }
  | _ => none }
def termsWritesRow : OpenClaim := { program := "ytfndldfnlncabaa", sum := "c8d60aee4704c4214a64fcf5b92f41266ea0fed9e08c1ce584d4542b66dfbcee", func := "tracery/tracerylaw11.TermsWrites", spec := "termsWrites", inPlace := ["internal/bytealg.IndexByteString", "internal/abi.NoEscape"], unfollowed := true, recurses := true, loops := true, apart := false }
def TermsWritesSaid : Prop := termsWritesRow.holds Try.pinned (OpenSpec.ofChange termsWritesSpec)

/-- ITS FALSE NEIGHBOUR: 'it returns false'. Refute it at one input. -/
def termsWritesWrong : ChangeSpec := { name := "termsWrites", fn := fun _ => fun
  | [d] => { results := [.lit (.bool false)], args := [d] }
  | _ => none }
def TermsWritesWrongFalsely : Prop := termsWritesRow.holds Try.pinned (OpenSpec.ofChange termsWritesWrong)

/-- 'tracerylaw11.TermsBack': WHATEVER THE INPUT: true; the input reads as it did. -/
def termsBackSpec : ChangeSpec := { name := "termsBack", fn := fun _ => fun
  | [d1, d2] => { results := [.lit (.bool true)], args := [d1, d2] }
  | _ => none }
def termsBackRow : OpenClaim := { program := "ytfndldfnlncabaa", sum := "c8d60aee4704c4214a64fcf5b92f41266ea0fed9e08c1ce584d4542b66dfbcee", func := "tracery/tracerylaw11.TermsBack", spec := "termsBack", inPlace := ["internal/bytealg.IndexByteString", "internal/abi.NoEscape"], unfollowed := true, recurses := true, loops := true, apart := false }
def TermsBackSaid : Prop := termsBackRow.holds Try.pinned (OpenSpec.ofChange termsBackSpec)

/-- ITS FALSE NEIGHBOUR: 'it returns false'. Refute it at one input. -/
def termsBackWrong : ChangeSpec := { name := "termsBack", fn := fun _ => fun
  | [d1, d2] => { results := [.lit (.bool false)], args := [d1, d2] }
  | _ => none }
def TermsBackWrongFalsely : Prop := termsBackRow.holds Try.pinned (OpenSpec.ofChange termsBackWrong)

/-- 'tracerylaw11.TermsBlanks': WHATEVER THE INPUT: true; the input reads as it did. -/
def termsBlanksSpec : ChangeSpec := { name := "termsBlanks", fn := fun _ => fun
  | [d1, d2] => { results := [.lit (.bool true)], args := [d1, d2] }
  | _ => none }
def termsBlanksRow : OpenClaim := { program := "ytfndldfnlncabaa", sum := "c8d60aee4704c4214a64fcf5b92f41266ea0fed9e08c1ce584d4542b66dfbcee", func := "tracery/tracerylaw11.TermsBlanks", spec := "termsBlanks", inPlace := ["internal/bytealg.IndexByteString", "internal/abi.NoEscape"], unfollowed := true, recurses := true, loops := true, apart := false }
def TermsBlanksSaid : Prop := termsBlanksRow.holds Try.pinned (OpenSpec.ofChange termsBlanksSpec)

/-- ITS FALSE NEIGHBOUR: 'it returns false'. Refute it at one input. -/
def termsBlanksWrong : ChangeSpec := { name := "termsBlanks", fn := fun _ => fun
  | [d1, d2] => { results := [.lit (.bool false)], args := [d1, d2] }
  | _ => none }
def TermsBlanksWrongFalsely : Prop := termsBlanksRow.holds Try.pinned (OpenSpec.ofChange termsBlanksWrong)

/-- 'tracerylaw11.TermsSame': WHATEVER THE INPUT: true; the input reads as it did. -/
def termsSameSpec : ChangeSpec := { name := "termsSame", fn := fun _ => fun
  | [d1, d2] => { results := [.lit (.bool true)], args := [d1, d2] }
  | _ => none }
def termsSameRow : OpenClaim := { program := "ytfndldfnlncabaa", sum := "c8d60aee4704c4214a64fcf5b92f41266ea0fed9e08c1ce584d4542b66dfbcee", func := "tracery/tracerylaw11.TermsSame", spec := "termsSame", inPlace := ["internal/bytealg.IndexByteString", "internal/abi.NoEscape"], unfollowed := true, recurses := true, loops := true, apart := false }
def TermsSameSaid : Prop := termsSameRow.holds Try.pinned (OpenSpec.ofChange termsSameSpec)

/-- ITS FALSE NEIGHBOUR: 'it returns false'. Refute it at one input. -/
def termsSameWrong : ChangeSpec := { name := "termsSame", fn := fun _ => fun
  | [d1, d2] => { results := [.lit (.bool false)], args := [d1, d2] }
  | _ => none }
def TermsSameWrongFalsely : Prop := termsSameRow.holds Try.pinned (OpenSpec.ofChange termsSameWrong)

/-- 'tracerylaw11.TermsApart': WHATEVER THE INPUT: true; the input reads as it did. -/
def termsApartSpec : ChangeSpec := { name := "termsApart", fn := fun _ => fun
  | [d1, d2] => { results := [.lit (.bool true)], args := [d1, d2] }
  | _ => none }
def termsApartRow : OpenClaim := { program := "ytfndldfnlncabaa", sum := "c8d60aee4704c4214a64fcf5b92f41266ea0fed9e08c1ce584d4542b66dfbcee", func := "tracery/tracerylaw11.TermsApart", spec := "termsApart", inPlace := ["internal/bytealg.IndexByteString", "internal/abi.NoEscape"], unfollowed := true, recurses := true, loops := true, apart := false }
def TermsApartSaid : Prop := termsApartRow.holds Try.pinned (OpenSpec.ofChange termsApartSpec)

/-- ITS FALSE NEIGHBOUR: 'it returns false'. Refute it at one input. -/
def termsApartWrong : ChangeSpec := { name := "termsApart", fn := fun _ => fun
  | [d1, d2] => { results := [.lit (.bool false)], args := [d1, d2] }
  | _ => none }
def TermsApartWrongFalsely : Prop := termsApartRow.holds Try.pinned (OpenSpec.ofChange termsApartWrong)

/-- 'tracerylaw11.TermsWalk': WHATEVER THE INPUT: true; the input reads as it did. -/
def termsWalkSpec : ChangeSpec := { name := "termsWalk", fn := fun _ => fun
  | [d1, d2] => { results := [.lit (.bool true)], args := [d1, d2] }
  | _ => none }
def termsWalkRow : OpenClaim := { program := "ytfndldfnlncabaa", sum := "c8d60aee4704c4214a64fcf5b92f41266ea0fed9e08c1ce584d4542b66dfbcee", func := "tracery/tracerylaw11.TermsWalk", spec := "termsWalk", inPlace := ["internal/bytealg.IndexByteString", "internal/abi.NoEscape"], unfollowed := true, recurses := true, loops := true, apart := false }
def TermsWalkSaid : Prop := termsWalkRow.holds Try.pinned (OpenSpec.ofChange termsWalkSpec)

/-- ITS FALSE NEIGHBOUR: 'it returns false'. Refute it at one input. -/
def termsWalkWrong : ChangeSpec := { name := "termsWalk", fn := fun _ => fun
  | [d1, d2] => { results := [.lit (.bool false)], args := [d1, d2] }
  | _ => none }
def TermsWalkWrongFalsely : Prop := termsWalkRow.holds Try.pinned (OpenSpec.ofChange termsWalkWrong)

/-- 'tracerylaw11.TermsParts': WHATEVER THE INPUT: true; the input reads as it did. -/
def termsPartsSpec : ChangeSpec := { name := "termsParts", fn := fun _ => fun
  | [d1, d2, d3] => { results := [.lit (.bool true)], args := [d1, d2, d3] }
  | _ => none }
def termsPartsRow : OpenClaim := { program := "ytfndldfnlncabaa", sum := "c8d60aee4704c4214a64fcf5b92f41266ea0fed9e08c1ce584d4542b66dfbcee", func := "tracery/tracerylaw11.TermsParts", spec := "termsParts", inPlace := ["internal/bytealg.IndexByteString", "internal/abi.NoEscape"], unfollowed := true, recurses := true, loops := true, apart := false }
def TermsPartsSaid : Prop := termsPartsRow.holds Try.pinned (OpenSpec.ofChange termsPartsSpec)

/-- ITS FALSE NEIGHBOUR: 'it returns false'. Refute it at one input. -/
def termsPartsWrong : ChangeSpec := { name := "termsParts", fn := fun _ => fun
  | [d1, d2, d3] => { results := [.lit (.bool false)], args := [d1, d2, d3] }
  | _ => none }
def TermsPartsWrongFalsely : Prop := termsPartsRow.holds Try.pinned (OpenSpec.ofChange termsPartsWrong)

/-- 'tracerylaw11.TermsPut': WHATEVER THE INPUT: true; the input reads as it did. -/
def termsPutSpec : ChangeSpec := { name := "termsPut", fn := fun _ => fun
  | [d1, d2, d3] => { results := [.lit (.bool true)], args := [d1, d2, d3] }
  | _ => none }
def termsPutRow : OpenClaim := { program := "ytfndldfnlncabaa", sum := "c8d60aee4704c4214a64fcf5b92f41266ea0fed9e08c1ce584d4542b66dfbcee", func := "tracery/tracerylaw11.TermsPut", spec := "termsPut", inPlace := ["internal/bytealg.IndexByteString", "internal/abi.NoEscape"], unfollowed := true, recurses := true, loops := true, apart := false }
def TermsPutSaid : Prop := termsPutRow.holds Try.pinned (OpenSpec.ofChange termsPutSpec)

/-- ITS FALSE NEIGHBOUR: 'it returns false'. Refute it at one input. -/
def termsPutWrong : ChangeSpec := { name := "termsPut", fn := fun _ => fun
  | [d1, d2, d3] => { results := [.lit (.bool false)], args := [d1, d2, d3] }
  | _ => none }
def TermsPutWrongFalsely : Prop := termsPutRow.holds Try.pinned (OpenSpec.ofChange termsPutWrong)

/-- 'tracerylaw11.TermsTell': WHATEVER THE INPUT: true; the input reads as it did. -/
def termsTellSpec : ChangeSpec := { name := "termsTell", fn := fun _ => fun
  | [d] => { results := [.lit (.bool true)], args := [d] }
  | _ => none }
def termsTellRow : OpenClaim := { program := "ytfndldfnlncabaa", sum := "c8d60aee4704c4214a64fcf5b92f41266ea0fed9e08c1ce584d4542b66dfbcee", func := "tracery/tracerylaw11.TermsTell", spec := "termsTell", inPlace := ["internal/bytealg.IndexByteString", "internal/abi.NoEscape"], unfollowed := true, recurses := true, loops := true, apart := false }
def TermsTellSaid : Prop := termsTellRow.holds Try.pinned (OpenSpec.ofChange termsTellSpec)

/-- ITS FALSE NEIGHBOUR: 'it returns false'. Refute it at one input. -/
def termsTellWrong : ChangeSpec := { name := "termsTell", fn := fun _ => fun
  | [d] => { results := [.lit (.bool false)], args := [d] }
  | _ => none }
def TermsTellWrongFalsely : Prop := termsTellRow.holds Try.pinned (OpenSpec.ofChange termsTellWrong)

/- THE SECOND FORM. 'bulk': how many values and letters a reading holds, each counted each time it is reached (what is shared counts as often as it is met; a slice's spare places count too). A statement '..UptoSaid' is the law's where the arguments, and the package variables that the reading takes, are together of bulk at most 1048576: NARROWER than '..Said'. Prove '..Said' where nothing that the law and all that it calls make is longer than what came in: it says more and counts as full. Else prove '..UptoSaid'. A law counts once. -/
mutual
def uptoBulk {H : Type} : DataW H → Nat
  | .lit (.string bytes) => bytes.length + 1
  | .lit _ => 1
  | .nil => 1
  | .ptr d => uptoBulk d + 1
  | .slice elems spare => uptoBulkAll elems + uptoBulkAll spare + 1
  | .agg parts => uptoBulkAll parts + 1
  | .iface _ d => uptoBulk d + 1
  | .map entries => uptoBulkEntries entries + 1
  | .held _ => 1
def uptoBulkAll {H : Type} : List (DataW H) → Nat
  | [] => 0
  | d :: r => uptoBulk d + uptoBulkAll r
def uptoBulkEntries {H : Type} : List (Lit × DataW H) → Nat
  | [] => 0
  | x :: r => uptoBulkEntry x + uptoBulkEntries r
def uptoBulkEntry {H : Type} : Lit × DataW H → Nat
  | (.string bytes, d) => bytes.length + uptoBulk d + 1
  | (_, d) => uptoBulk d + 1
 end
def uptoSmall : (H : Type) → List (DataW H) → Bool := fun _ ds => decide (uptoBulkAll ds ≤ 1048576)
def OpenSpec.upto (s : _root_.Go.ChangeSpec) : _root_.Go.OpenSpec := { _root_.Go.OpenSpec.ofChange s with cond := some uptoSmall }

/-- 'tracerylaw11.TermsWrites', WHERE WHAT IT READS IS OF BULK AT MOST 1048576: true; the input reads as it did. -/
def termsWritesUptoRow : OpenClaim := { program := "ytfndldfnlncabaa", sum := "c8d60aee4704c4214a64fcf5b92f41266ea0fed9e08c1ce584d4542b66dfbcee", func := "tracery/tracerylaw11.TermsWrites", spec := "termsWrites", inPlace := ["internal/bytealg.IndexByteString", "internal/abi.NoEscape"], unfollowed := true, recurses := true, loops := true, apart := false, narrowed := true }
def TermsWritesUptoSaid : Prop := termsWritesUptoRow.holds Try.pinned (OpenSpec.upto termsWritesSpec)

/-- 'tracerylaw11.TermsBack', WHERE WHAT IT READS IS OF BULK AT MOST 1048576: true; the input reads as it did. -/
def termsBackUptoRow : OpenClaim := { program := "ytfndldfnlncabaa", sum := "c8d60aee4704c4214a64fcf5b92f41266ea0fed9e08c1ce584d4542b66dfbcee", func := "tracery/tracerylaw11.TermsBack", spec := "termsBack", inPlace := ["internal/bytealg.IndexByteString", "internal/abi.NoEscape"], unfollowed := true, recurses := true, loops := true, apart := false, narrowed := true }
def TermsBackUptoSaid : Prop := termsBackUptoRow.holds Try.pinned (OpenSpec.upto termsBackSpec)

/-- 'tracerylaw11.TermsBlanks', WHERE WHAT IT READS IS OF BULK AT MOST 1048576: true; the input reads as it did. -/
def termsBlanksUptoRow : OpenClaim := { program := "ytfndldfnlncabaa", sum := "c8d60aee4704c4214a64fcf5b92f41266ea0fed9e08c1ce584d4542b66dfbcee", func := "tracery/tracerylaw11.TermsBlanks", spec := "termsBlanks", inPlace := ["internal/bytealg.IndexByteString", "internal/abi.NoEscape"], unfollowed := true, recurses := true, loops := true, apart := false, narrowed := true }
def TermsBlanksUptoSaid : Prop := termsBlanksUptoRow.holds Try.pinned (OpenSpec.upto termsBlanksSpec)

/-- 'tracerylaw11.TermsSame', WHERE WHAT IT READS IS OF BULK AT MOST 1048576: true; the input reads as it did. -/
def termsSameUptoRow : OpenClaim := { program := "ytfndldfnlncabaa", sum := "c8d60aee4704c4214a64fcf5b92f41266ea0fed9e08c1ce584d4542b66dfbcee", func := "tracery/tracerylaw11.TermsSame", spec := "termsSame", inPlace := ["internal/bytealg.IndexByteString", "internal/abi.NoEscape"], unfollowed := true, recurses := true, loops := true, apart := false, narrowed := true }
def TermsSameUptoSaid : Prop := termsSameUptoRow.holds Try.pinned (OpenSpec.upto termsSameSpec)

/-- 'tracerylaw11.TermsApart', WHERE WHAT IT READS IS OF BULK AT MOST 1048576: true; the input reads as it did. -/
def termsApartUptoRow : OpenClaim := { program := "ytfndldfnlncabaa", sum := "c8d60aee4704c4214a64fcf5b92f41266ea0fed9e08c1ce584d4542b66dfbcee", func := "tracery/tracerylaw11.TermsApart", spec := "termsApart", inPlace := ["internal/bytealg.IndexByteString", "internal/abi.NoEscape"], unfollowed := true, recurses := true, loops := true, apart := false, narrowed := true }
def TermsApartUptoSaid : Prop := termsApartUptoRow.holds Try.pinned (OpenSpec.upto termsApartSpec)

/-- 'tracerylaw11.TermsWalk', WHERE WHAT IT READS IS OF BULK AT MOST 1048576: true; the input reads as it did. -/
def termsWalkUptoRow : OpenClaim := { program := "ytfndldfnlncabaa", sum := "c8d60aee4704c4214a64fcf5b92f41266ea0fed9e08c1ce584d4542b66dfbcee", func := "tracery/tracerylaw11.TermsWalk", spec := "termsWalk", inPlace := ["internal/bytealg.IndexByteString", "internal/abi.NoEscape"], unfollowed := true, recurses := true, loops := true, apart := false, narrowed := true }
def TermsWalkUptoSaid : Prop := termsWalkUptoRow.holds Try.pinned (OpenSpec.upto termsWalkSpec)

/-- 'tracerylaw11.TermsParts', WHERE WHAT IT READS IS OF BULK AT MOST 1048576: true; the input reads as it did. -/
def termsPartsUptoRow : OpenClaim := { program := "ytfndldfnlncabaa", sum := "c8d60aee4704c4214a64fcf5b92f41266ea0fed9e08c1ce584d4542b66dfbcee", func := "tracery/tracerylaw11.TermsParts", spec := "termsParts", inPlace := ["internal/bytealg.IndexByteString", "internal/abi.NoEscape"], unfollowed := true, recurses := true, loops := true, apart := false, narrowed := true }
def TermsPartsUptoSaid : Prop := termsPartsUptoRow.holds Try.pinned (OpenSpec.upto termsPartsSpec)

/-- 'tracerylaw11.TermsPut', WHERE WHAT IT READS IS OF BULK AT MOST 1048576: true; the input reads as it did. -/
def termsPutUptoRow : OpenClaim := { program := "ytfndldfnlncabaa", sum := "c8d60aee4704c4214a64fcf5b92f41266ea0fed9e08c1ce584d4542b66dfbcee", func := "tracery/tracerylaw11.TermsPut", spec := "termsPut", inPlace := ["internal/bytealg.IndexByteString", "internal/abi.NoEscape"], unfollowed := true, recurses := true, loops := true, apart := false, narrowed := true }
def TermsPutUptoSaid : Prop := termsPutUptoRow.holds Try.pinned (OpenSpec.upto termsPutSpec)

/-- 'tracerylaw11.TermsTell', WHERE WHAT IT READS IS OF BULK AT MOST 1048576: true; the input reads as it did. -/
def termsTellUptoRow : OpenClaim := { program := "ytfndldfnlncabaa", sum := "c8d60aee4704c4214a64fcf5b92f41266ea0fed9e08c1ce584d4542b66dfbcee", func := "tracery/tracerylaw11.TermsTell", spec := "termsTell", inPlace := ["internal/bytealg.IndexByteString", "internal/abi.NoEscape"], unfollowed := true, recurses := true, loops := true, apart := false, narrowed := true }
def TermsTellUptoSaid : Prop := termsTellUptoRow.holds Try.pinned (OpenSpec.upto termsTellSpec)

end Rows
end Go.Proofs.Ytfndldfnlncabaa
