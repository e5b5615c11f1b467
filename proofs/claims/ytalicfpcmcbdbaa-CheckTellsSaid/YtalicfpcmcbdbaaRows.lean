/-
  NARROWER THAN 'FOR EVERY INPUT', by the rows' own cells (each row's printed sentence says how): CheckTells: loops · CheckTurned: loops · CheckLess: loops · CheckTwice: loops · CheckFar: loops · CheckWhole: loops · CheckLists: loops.
  DERIVED. THE GIVEN ROWS OF THIS SEAT. 8 by the template 'for every input the law returns true; each argument reads behind the call as it read before'; 0 by the template 'total and deterministic' (their statements: YtalicfpcmcbdbaaTotals.lean).
  GIVEN WITH THE SEED: the statements are not yours to turn. If you find one false, say at which input.
  Laid BY PROGRAM, IN A SANDBOX (cutbox-rows.mjs): the forced cells as the released guide's own fill.sh prints them over the translation 02631b355ef6a3e0… (all of the seat's roots in one cut). By AI agents, Wed Nov 11 2026. No macro, syntax, notation, axiom, sorry.
-/
import Derived.Test.YtalicfpcmcbdbaaChecked
import GoSem.Claim
import GoSem.ClaimJoined
import GoSem.ClaimMapViews
import Derived.JoinedTies
import Derived.KernelRfl
namespace Go.Proofs.Ytalicfpcmcbdbaa
/- THE CELL 'sum', in the pinned program and in every row, IS THE sha256 OF THE DUMP (.gsa) THAT YtalicfpcmcbdbaaProg.lean LOADS. Nothing in Lean hashes anything: it is a label: what it is worth is what the hold of that sum in a sandbox is worth. -/
noncomputable def Try.pinned : Pinned := { name := "ytalicfpcmcbdbaa", sum := "02631b355ef6a3e06ea198cd54dd8c17b3615e2f51468be573778e1099880bc9", checked := Try.checked }
namespace Rows
def none {H : Type} : Left H := { results := [], args := [] }

/-- 'tracerylaw04.CheckTells': WHATEVER THE INPUT: true; the input reads as it did. -/
def checkTellsSpec : ChangeSpec := { name := "checkTells", fn := fun _ => fun
  | [d] => { results := [.lit (.bool true)], args := [d] }
  | _ => none }
def checkTellsRow : OpenClaim := { program := "ytalicfpcmcbdbaa", sum := "02631b355ef6a3e06ea198cd54dd8c17b3615e2f51468be573778e1099880bc9", func := "tracery/tracerylaw04.CheckTells", spec := "checkTells", unfollowed := true, recurses := true, loops := true, apart := false }
def CheckTellsSaid : Prop := checkTellsRow.holds Try.pinned (OpenSpec.ofChange checkTellsSpec)

/-- ITS FALSE NEIGHBOUR: 'it returns false'. Refute it at one input. -/
def checkTellsWrong : ChangeSpec := { name := "checkTells", fn := fun _ => fun
  | [d] => { results := [.lit (.bool false)], args := [d] }
  | _ => none }
def CheckTellsWrongFalsely : Prop := checkTellsRow.holds Try.pinned (OpenSpec.ofChange checkTellsWrong)

/-- 'tracerylaw04.CheckHoles': WHATEVER THE INPUT: true; the input reads as it did. -/
def checkHolesSpec : ChangeSpec := { name := "checkHoles", fn := fun _ => fun
  | [d] => { results := [.lit (.bool true)], args := [d] }
  | _ => none }
def checkHolesRow : OpenClaim := { program := "ytalicfpcmcbdbaa", sum := "02631b355ef6a3e06ea198cd54dd8c17b3615e2f51468be573778e1099880bc9", func := "tracery/tracerylaw04.CheckHoles", spec := "checkHoles", unfollowed := true, recurses := true, apart := false }
def CheckHolesSaid : Prop := checkHolesRow.holds Try.pinned (OpenSpec.ofChange checkHolesSpec)

/-- ITS FALSE NEIGHBOUR: 'it returns false'. Refute it at one input. -/
def checkHolesWrong : ChangeSpec := { name := "checkHoles", fn := fun _ => fun
  | [d] => { results := [.lit (.bool false)], args := [d] }
  | _ => none }
def CheckHolesWrongFalsely : Prop := checkHolesRow.holds Try.pinned (OpenSpec.ofChange checkHolesWrong)

/-- 'tracerylaw04.CheckTurned': WHATEVER THE INPUT: true; the input reads as it did. -/
def checkTurnedSpec : ChangeSpec := { name := "checkTurned", fn := fun _ => fun
  | [d1, d2] => { results := [.lit (.bool true)], args := [d1, d2] }
  | _ => none }
def checkTurnedRow : OpenClaim := { program := "ytalicfpcmcbdbaa", sum := "02631b355ef6a3e06ea198cd54dd8c17b3615e2f51468be573778e1099880bc9", func := "tracery/tracerylaw04.CheckTurned", spec := "checkTurned", unfollowed := true, recurses := true, loops := true, apart := false }
def CheckTurnedSaid : Prop := checkTurnedRow.holds Try.pinned (OpenSpec.ofChange checkTurnedSpec)

/-- ITS FALSE NEIGHBOUR: 'it returns false'. Refute it at one input. -/
def checkTurnedWrong : ChangeSpec := { name := "checkTurned", fn := fun _ => fun
  | [d1, d2] => { results := [.lit (.bool false)], args := [d1, d2] }
  | _ => none }
def CheckTurnedWrongFalsely : Prop := checkTurnedRow.holds Try.pinned (OpenSpec.ofChange checkTurnedWrong)

/-- 'tracerylaw04.CheckLess': WHATEVER THE INPUT: true; the input reads as it did. -/
def checkLessSpec : ChangeSpec := { name := "checkLess", fn := fun _ => fun
  | [d1, d2] => { results := [.lit (.bool true)], args := [d1, d2] }
  | _ => none }
def checkLessRow : OpenClaim := { program := "ytalicfpcmcbdbaa", sum := "02631b355ef6a3e06ea198cd54dd8c17b3615e2f51468be573778e1099880bc9", func := "tracery/tracerylaw04.CheckLess", spec := "checkLess", unfollowed := true, recurses := true, loops := true, apart := false }
def CheckLessSaid : Prop := checkLessRow.holds Try.pinned (OpenSpec.ofChange checkLessSpec)

/-- ITS FALSE NEIGHBOUR: 'it returns false'. Refute it at one input. -/
def checkLessWrong : ChangeSpec := { name := "checkLess", fn := fun _ => fun
  | [d1, d2] => { results := [.lit (.bool false)], args := [d1, d2] }
  | _ => none }
def CheckLessWrongFalsely : Prop := checkLessRow.holds Try.pinned (OpenSpec.ofChange checkLessWrong)

/-- 'tracerylaw04.CheckTwice': WHATEVER THE INPUT: true; the input reads as it did. -/
def checkTwiceSpec : ChangeSpec := { name := "checkTwice", fn := fun _ => fun
  | [d1, d2] => { results := [.lit (.bool true)], args := [d1, d2] }
  | _ => none }
def checkTwiceRow : OpenClaim := { program := "ytalicfpcmcbdbaa", sum := "02631b355ef6a3e06ea198cd54dd8c17b3615e2f51468be573778e1099880bc9", func := "tracery/tracerylaw04.CheckTwice", spec := "checkTwice", unfollowed := true, recurses := true, loops := true, apart := false }
def CheckTwiceSaid : Prop := checkTwiceRow.holds Try.pinned (OpenSpec.ofChange checkTwiceSpec)

/-- ITS FALSE NEIGHBOUR: 'it returns false'. Refute it at one input. -/
def checkTwiceWrong : ChangeSpec := { name := "checkTwice", fn := fun _ => fun
  | [d1, d2] => { results := [.lit (.bool false)], args := [d1, d2] }
  | _ => none }
def CheckTwiceWrongFalsely : Prop := checkTwiceRow.holds Try.pinned (OpenSpec.ofChange checkTwiceWrong)

/-- 'tracerylaw04.CheckFar': WHATEVER THE INPUT: true; the input reads as it did. -/
def checkFarSpec : ChangeSpec := { name := "checkFar", fn := fun _ => fun
  | [d1, d2] => { results := [.lit (.bool true)], args := [d1, d2] }
  | _ => none }
def checkFarRow : OpenClaim := { program := "ytalicfpcmcbdbaa", sum := "02631b355ef6a3e06ea198cd54dd8c17b3615e2f51468be573778e1099880bc9", func := "tracery/tracerylaw04.CheckFar", spec := "checkFar", unfollowed := true, recurses := true, loops := true, apart := false }
def CheckFarSaid : Prop := checkFarRow.holds Try.pinned (OpenSpec.ofChange checkFarSpec)

/-- ITS FALSE NEIGHBOUR: 'it returns false'. Refute it at one input. -/
def checkFarWrong : ChangeSpec := { name := "checkFar", fn := fun _ => fun
  | [d1, d2] => { results := [.lit (.bool false)], args := [d1, d2] }
  | _ => none }
def CheckFarWrongFalsely : Prop := checkFarRow.holds Try.pinned (OpenSpec.ofChange checkFarWrong)

/-- 'tracerylaw04.CheckWhole': WHATEVER THE INPUT: true; the input reads as it did. -/
def checkWholeSpec : ChangeSpec := { name := "checkWhole", fn := fun _ => fun
  | [d] => { results := [.lit (.bool true)], args := [d] }
  | _ => none }
def checkWholeRow : OpenClaim := { program := "ytalicfpcmcbdbaa", sum := "02631b355ef6a3e06ea198cd54dd8c17b3615e2f51468be573778e1099880bc9", func := "tracery/tracerylaw04.CheckWhole", spec := "checkWhole", unfollowed := true, recurses := true, loops := true, apart := false }
def CheckWholeSaid : Prop := checkWholeRow.holds Try.pinned (OpenSpec.ofChange checkWholeSpec)

/-- ITS FALSE NEIGHBOUR: 'it returns false'. Refute it at one input. -/
def checkWholeWrong : ChangeSpec := { name := "checkWhole", fn := fun _ => fun
  | [d] => { results := [.lit (.bool false)], args := [d] }
  | _ => none }
def CheckWholeWrongFalsely : Prop := checkWholeRow.holds Try.pinned (OpenSpec.ofChange checkWholeWrong)

/-- 'tracerylaw04.CheckLists': WHATEVER THE INPUT: true; the input reads as it did. -/
def checkListsSpec : ChangeSpec := { name := "checkLists", fn := fun _ => fun
  | [d1, d2] => { results := [.lit (.bool true)], args := [d1, d2] }
  | _ => none }
def checkListsRow : OpenClaim := { program := "ytalicfpcmcbdbaa", sum := "02631b355ef6a3e06ea198cd54dd8c17b3615e2f51468be573778e1099880bc9", func := "tracery/tracerylaw04.CheckLists", spec := "checkLists", unfollowed := true, recurses := true, loops := true, apart := false }
def CheckListsSaid : Prop := checkListsRow.holds Try.pinned (OpenSpec.ofChange checkListsSpec)

/-- ITS FALSE NEIGHBOUR: 'it returns false'. Refute it at one input. -/
def checkListsWrong : ChangeSpec := { name := "checkLists", fn := fun _ => fun
  | [d1, d2] => { results := [.lit (.bool false)], args := [d1, d2] }
  | _ => none }
def CheckListsWrongFalsely : Prop := checkListsRow.holds Try.pinned (OpenSpec.ofChange checkListsWrong)

/- THE SECOND FORM. 'bulk': how many values and letters a reading holds, each counted each time it is reached (what is shared counts as often as it is met; a slice's spare places count too). A statement '..UptoSaid' is the law's where the arguments, and the package variables that the reading takes, are together of bulk at most 1048576: NARROWER than '..Said'. Prove '..Said' where nothing that the law and all that it calls make is longer than what came in: it says more and counts as full. Else prove '..UptoSaid'. A law counts once. -/
mutual
def uptoBulk {H : Type} : DataW H → Nat
  | .lit (.string bytes) => bytes.length + 1
  | .lit _ => 1
  | .nil => 1
  | .ptr d => uptoBulk d + 1
  | .slice elems spare => uptoBulkAll elems + uptoBulkAll spare + 1
  | .agg parts => uptoBulkAll parts + 1
  | .iface _ d => uptoBulk d + 1
  | .map entries => uptoBulkEntries entries + 1
  | .held _ => 1
def uptoBulkAll {H : Type} : List (DataW H) → Nat
  | [] => 0
  | d :: r => uptoBulk d + uptoBulkAll r
def uptoBulkEntries {H : Type} : List (Lit × DataW H) → Nat
  | [] => 0
  | x :: r => uptoBulkEntry x + uptoBulkEntries r
def uptoBulkEntry {H : Type} : Lit × DataW H → Nat
  | (.string bytes, d) => bytes.length + uptoBulk d + 1
  | (_, d) => uptoBulk d + 1
 end
def uptoSmall : (H : Type) → List (DataW H) → Bool := fun _ ds => decide (uptoBulkAll ds ≤ 1048576)
def OpenSpec.upto (s : _root_.Go.ChangeSpec) : _root_.Go.OpenSpec := { _root_.Go.OpenSpec.ofChange s with cond := some uptoSmall }

/-- 'tracerylaw04.CheckTells', WHERE WHAT IT READS IS OF BULK AT MOST 1048576: true; the input reads as it did. -/
def checkTellsUptoRow : OpenClaim := { program := "ytalicfpcmcbdbaa", sum := "02631b355ef6a3e06ea198cd54dd8c17b3615e2f51468be573778e1099880bc9", func := "tracery/tracerylaw04.CheckTells", spec := "checkTells", unfollowed := true, recurses := true, loops := true, apart := false, narrowed := true }
def CheckTellsUptoSaid : Prop := checkTellsUptoRow.holds Try.pinned (OpenSpec.upto checkTellsSpec)

/-- 'tracerylaw04.CheckHoles', WHERE WHAT IT READS IS OF BULK AT MOST 1048576: true; the input reads as it did. -/
def checkHolesUptoRow : OpenClaim := { program := "ytalicfpcmcbdbaa", sum := "02631b355ef6a3e06ea198cd54dd8c17b3615e2f51468be573778e1099880bc9", func := "tracery/tracerylaw04.CheckHoles", spec := "checkHoles", unfollowed := true, recurses := true, apart := false, narrowed := true }
def CheckHolesUptoSaid : Prop := checkHolesUptoRow.holds Try.pinned (OpenSpec.upto checkHolesSpec)

/-- 'tracerylaw04.CheckTurned', WHERE WHAT IT READS IS OF BULK AT MOST 1048576: true; the input reads as it did. -/
def checkTurnedUptoRow : OpenClaim := { program := "ytalicfpcmcbdbaa", sum := "02631b355ef6a3e06ea198cd54dd8c17b3615e2f51468be573778e1099880bc9", func := "tracery/tracerylaw04.CheckTurned", spec := "checkTurned", unfollowed := true, recurses := true, loops := true, apart := false, narrowed := true }
def CheckTurnedUptoSaid : Prop := checkTurnedUptoRow.holds Try.pinned (OpenSpec.upto checkTurnedSpec)

/-- 'tracerylaw04.CheckLess', WHERE WHAT IT READS IS OF BULK AT MOST 1048576: true; the input reads as it did. -/
def checkLessUptoRow : OpenClaim := { program := "ytalicfpcmcbdbaa", sum := "02631b355ef6a3e06ea198cd54dd8c17b3615e2f51468be573778e1099880bc9", func := "tracery/tracerylaw04.CheckLess", spec := "checkLess", unfollowed := true, recurses := true, loops := true, apart := false, narrowed := true }
def CheckLessUptoSaid : Prop := checkLessUptoRow.holds Try.pinned (OpenSpec.upto checkLessSpec)

/-- 'tracerylaw04.CheckTwice', WHERE WHAT IT READS IS OF BULK AT MOST 1048576: true; the input reads as it did. -/
def checkTwiceUptoRow : OpenClaim := { program := "ytalicfpcmcbdbaa", sum := "02631b355ef6a3e06ea198cd54dd8c17b3615e2f51468be573778e1099880bc9", func := "tracery/tracerylaw04.CheckTwice", spec := "checkTwice", unfollowed := true, recurses := true, loops := true, apart := false, narrowed := true }
def CheckTwiceUptoSaid : Prop := checkTwiceUptoRow.holds Try.pinned (OpenSpec.upto checkTwiceSpec)

/-- 'tracerylaw04.CheckFar', WHERE WHAT IT READS IS OF BULK AT MOST 1048576: true; the input reads as it did. -/
def checkFarUptoRow : OpenClaim := { program := "ytalicfpcmcbdbaa", sum := "02631b355ef6a3e06ea198cd54dd8c17b3615e2f51468be573778e1099880bc9", func := "tracery/tracerylaw04.CheckFar", spec := "checkFar", unfollowed := true, recurses := true, loops := true, apart := false, narrowed := true }
def CheckFarUptoSaid : Prop := checkFarUptoRow.holds Try.pinned (OpenSpec.upto checkFarSpec)

/-- 'tracerylaw04.CheckWhole', WHERE WHAT IT READS IS OF BULK AT MOST 1048576: true; the input reads as it did. -/
def checkWholeUptoRow : OpenClaim := { program := "ytalicfpcmcbdbaa", sum := "02631b355ef6a3e06ea198cd54dd8c17b3615e2f51468be573778e1099880bc9", func := "tracery/tracerylaw04.CheckWhole", spec := "checkWhole", unfollowed := true, recurses := true, loops := true, apart := false, narrowed := true }
def CheckWholeUptoSaid : Prop := checkWholeUptoRow.holds Try.pinned (OpenSpec.upto checkWholeSpec)

/-- 'tracerylaw04.CheckLists', WHERE WHAT IT READS IS OF BULK AT MOST 1048576: true; the input reads as it did. -/
def checkListsUptoRow : OpenClaim := { program := "ytalicfpcmcbdbaa", sum := "02631b355ef6a3e06ea198cd54dd8c17b3615e2f51468be573778e1099880bc9", func := "tracery/tracerylaw04.CheckLists", spec := "checkLists", unfollowed := true, recurses := true, loops := true, apart := false, narrowed := true }
def CheckListsUptoSaid : Prop := checkListsUptoRow.holds Try.pinned (OpenSpec.upto checkListsSpec)

end Rows
end Go.Proofs.Ytalicfpcmcbdbaa
