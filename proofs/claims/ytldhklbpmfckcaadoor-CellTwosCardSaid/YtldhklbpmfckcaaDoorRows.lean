/-
  NARROWER THAN 'FOR EVERY INPUT', by the rows' own cells (each row's printed sentence says how): CellNeutrals: laid · CellBezouts: laid · ShapeCounts: laid · CellOnes: laid · ShapeAxes: laid · ShapePlaces: laid · CellTwos: laid · CellDivides: laid.
  DERIVED. THE GIVEN ROWS OF THIS SEAT. 8 by the template 'for every input the law returns true; each argument reads behind the call as it read before'; 0 by the template 'total and deterministic' (their statements: YtldhklbpmfckcaaDoorTotals.lean).
  GIVEN WITH THE SEED: the statements are not yours to turn. If you find one false, say at which input.
  Laid BY PROGRAM, IN A SANDBOX (cutbox-rows.mjs): the forced cells as the released guide's own fill.sh prints them over the translation 43285b29029d5168… (all of the seat's roots in one cut). By AI agents, Wed Nov 11 2026. No macro, syntax, notation, axiom, sorry.
-/
import Derived.Test.YtldhklbpmfckcaaDoorChecked
import GoSem.Claim
import GoSem.ClaimJoined
import GoSem.ClaimMapViews
import Derived.JoinedTies
import Derived.KernelRfl
namespace Go.Proofs.YtldhklbpmfckcaaDoor
/- THE CELL 'sum', in the pinned program and in every row, IS THE sha256 OF THE DUMP (.gsa) THAT YtldhklbpmfckcaaDoorProg.lean LOADS. Nothing in Lean hashes anything: it is a label: what it is worth is what the hold of that sum in a sandbox is worth. -/
noncomputable def Tryd.pinned : Pinned := { name := "ytldhklbpmfckcaadoor", sum := "43285b29029d51680b5f823e2df65f44db4a684eceefb710ea30093223751751", checked := Tryd.checked }
namespace Rows
def none {H : Type} : Left H := { results := [], args := [] }

/- WHAT THE LISTED PACKAGE-LEVEL VARIABLES READ AS WHEN THE CALL BEGINS. Each datum BY PROGRAM (the guide's laid-datum.mjs) off the statement by which the dump's own 'gosem.cut.vars' lays the variable. In a bare row this is a premise. The card (YtldhklbpmfckcaaDoorCards.lean) ties it to the program's text. -/
def laid_errors_errorType {H : Type} : DataW H := .iface "internal/reflectlite.rtype" (.agg [.ptr (.lit (.string [101, 114, 114, 111, 114]))])

/-- 'ravelinlaw1.CellNeutrals': WHATEVER THE INPUT: true; the input reads as it did. -/
def cellNeutralsSpec : ChangeSpec := { name := "cellNeutrals", fn := fun _ => fun
  | [d] => { results := [.lit (.bool true)], args := [d] }
  | _ => none }
def cellNeutralsRow : OpenClaim := { program := "ytldhklbpmfckcaadoor", sum := "43285b29029d51680b5f823e2df65f44db4a684eceefb710ea30093223751751", func := "ravelin/ravelinlaw1.CellNeutrals", spec := "cellNeutrals", inPlace := ["internal/reflectlite.ValueOf", "(internal/reflectlite.Value).Type", "(internal/reflectlite.Value).IsNil", "internal/reflectlite.TypeOf", "(internal/reflectlite.Value).Elem", "(internal/reflectlite.Value).Set"], unfollowed := true, recurses := true, named := ["errors.errorType"], apart := false, laid := [("errors.errorType", laid_errors_errorType)] }
def CellNeutralsSaid : Prop := cellNeutralsRow.holds Tryd.pinned (OpenSpec.ofChange cellNeutralsSpec)

/-- ITS FALSE NEIGHBOUR: 'it returns false'. Refute it at one input. -/
def cellNeutralsWrong : ChangeSpec := { name := "cellNeutrals", fn := fun _ => fun
  | [d] => { results := [.lit (.bool false)], args := [d] }
  | _ => none }
def CellNeutralsWrongFalsely : Prop := cellNeutralsRow.holds Tryd.pinned (OpenSpec.ofChange cellNeutralsWrong)

/-- 'ravelinlaw1.CellBezouts': WHATEVER THE INPUT: true; the input reads as it did. -/
def cellBezoutsSpec : ChangeSpec := { name := "cellBezouts", fn := fun _ => fun
  | [d1, d2] => { results := [.lit (.bool true)], args := [d1, d2] }
  | _ => none }
def cellBezoutsRow : OpenClaim := { program := "ytldhklbpmfckcaadoor", sum := "43285b29029d51680b5f823e2df65f44db4a684eceefb710ea30093223751751", func := "ravelin/ravelinlaw1.CellBezouts", spec := "cellBezouts", inPlace := ["internal/reflectlite.ValueOf", "(internal/reflectlite.Value).Type", "(internal/reflectlite.Value).IsNil", "internal/reflectlite.TypeOf", "(internal/reflectlite.Value).Elem", "(internal/reflectlite.Value).Set"], unfollowed := true, recurses := true, named := ["errors.errorType"], apart := false, laid := [("errors.errorType", laid_errors_errorType)] }
def CellBezoutsSaid : Prop := cellBezoutsRow.holds Tryd.pinned (OpenSpec.ofChange cellBezoutsSpec)

/-- ITS FALSE NEIGHBOUR: 'it returns false'. Refute it at one input. -/
def cellBezoutsWrong : ChangeSpec := { name := "cellBezouts", fn := fun _ => fun
  | [d1, d2] => { results := [.lit (.bool false)], args := [d1, d2] }
  | _ => none }
def CellBezoutsWrongFalsely : Prop := cellBezoutsRow.holds Tryd.pinned (OpenSpec.ofChange cellBezoutsWrong)

/-- 'ravelinlaw1.ShapeCounts': WHATEVER THE INPUT: true; the input reads as it did. -/
def shapeCountsSpec : ChangeSpec := { name := "shapeCounts", fn := fun _ => fun
  | [d] => { results := [.lit (.bool true)], args := [d] }
  | _ => none }
def shapeCountsRow : OpenClaim := { program := "ytldhklbpmfckcaadoor", sum := "43285b29029d51680b5f823e2df65f44db4a684eceefb710ea30093223751751", func := "ravelin/ravelinlaw1.ShapeCounts", spec := "shapeCounts", inPlace := ["internal/reflectlite.ValueOf", "(internal/reflectlite.Value).Type", "(internal/reflectlite.Value).IsNil", "internal/reflectlite.TypeOf", "(internal/reflectlite.Value).Elem", "(internal/reflectlite.Value).Set"], unfollowed := true, recurses := true, named := ["errors.errorType"], apart := false, laid := [("errors.errorType", laid_errors_errorType)] }
def ShapeCountsSaid : Prop := shapeCountsRow.holds Tryd.pinned (OpenSpec.ofChange shapeCountsSpec)

/-- ITS FALSE NEIGHBOUR: 'it returns false'. Refute it at one input. -/
def shapeCountsWrong : ChangeSpec := { name := "shapeCounts", fn := fun _ => fun
  | [d] => { results := [.lit (.bool false)], args := [d] }
  | _ => none }
def ShapeCountsWrongFalsely : Prop := shapeCountsRow.holds Tryd.pinned (OpenSpec.ofChange shapeCountsWrong)

/-- 'ravelinlaw1.CellOnes': WHATEVER THE INPUT: true; the input reads as it did. -/
def cellOnesSpec : ChangeSpec := { name := "cellOnes", fn := fun _ => fun
  | [d1, d2] => { results := [.lit (.bool true)], args := [d1, d2] }
  | _ => none }
def cellOnesRow : OpenClaim := { program := "ytldhklbpmfckcaadoor", sum := "43285b29029d51680b5f823e2df65f44db4a684eceefb710ea30093223751751", func := "ravelin/ravelinlaw1.CellOnes", spec := "cellOnes", inPlace := ["internal/reflectlite.ValueOf", "(internal/reflectlite.Value).Type", "(internal/reflectlite.Value).IsNil", "internal/reflectlite.TypeOf", "(internal/reflectlite.Value).Elem", "(internal/reflectlite.Value).Set"], unfollowed := true, recurses := true, named := ["errors.errorType"], apart := false, laid := [("errors.errorType", laid_errors_errorType)] }
def CellOnesSaid : Prop := cellOnesRow.holds Tryd.pinned (OpenSpec.ofChange cellOnesSpec)

/-- ITS FALSE NEIGHBOUR: 'it returns false'. Refute it at one input. -/
def cellOnesWrong : ChangeSpec := { name := "cellOnes", fn := fun _ => fun
  | [d1, d2] => { results := [.lit (.bool false)], args := [d1, d2] }
  | _ => none }
def CellOnesWrongFalsely : Prop := cellOnesRow.holds Tryd.pinned (OpenSpec.ofChange cellOnesWrong)

/-- 'ravelinlaw1.ShapeAxes': WHATEVER THE INPUT: true; the input reads as it did. -/
def shapeAxesSpec : ChangeSpec := { name := "shapeAxes", fn := fun _ => fun
  | [d1, d2] => { results := [.lit (.bool true)], args := [d1, d2] }
  | _ => none }
def shapeAxesRow : OpenClaim := { program := "ytldhklbpmfckcaadoor", sum := "43285b29029d51680b5f823e2df65f44db4a684eceefb710ea30093223751751", func := "ravelin/ravelinlaw1.ShapeAxes", spec := "shapeAxes", inPlace := ["internal/reflectlite.ValueOf", "(internal/reflectlite.Value).Type", "(internal/reflectlite.Value).IsNil", "internal/reflectlite.TypeOf", "(internal/reflectlite.Value).Elem", "(internal/reflectlite.Value).Set"], unfollowed := true, recurses := true, named := ["errors.errorType"], apart := false, laid := [("errors.errorType", laid_errors_errorType)] }
def ShapeAxesSaid : Prop := shapeAxesRow.holds Tryd.pinned (OpenSpec.ofChange shapeAxesSpec)

/-- ITS FALSE NEIGHBOUR: 'it returns false'. Refute it at one input. -/
def shapeAxesWrong : ChangeSpec := { name := "shapeAxes", fn := fun _ => fun
  | [d1, d2] => { results := [.lit (.bool false)], args := [d1, d2] }
  | _ => none }
def ShapeAxesWrongFalsely : Prop := shapeAxesRow.holds Tryd.pinned (OpenSpec.ofChange shapeAxesWrong)

/-- 'ravelinlaw1.ShapePlaces': WHATEVER THE INPUT: true; the input reads as it did. -/
def shapePlacesSpec : ChangeSpec := { name := "shapePlaces", fn := fun _ => fun
  | [d1, d2, d3] => { results := [.lit (.bool true)], args := [d1, d2, d3] }
  | _ => none }
def shapePlacesRow : OpenClaim := { program := "ytldhklbpmfckcaadoor", sum := "43285b29029d51680b5f823e2df65f44db4a684eceefb710ea30093223751751", func := "ravelin/ravelinlaw1.ShapePlaces", spec := "shapePlaces", inPlace := ["internal/reflectlite.ValueOf", "(internal/reflectlite.Value).Type", "(internal/reflectlite.Value).IsNil", "internal/reflectlite.TypeOf", "(internal/reflectlite.Value).Elem", "(internal/reflectlite.Value).Set"], unfollowed := true, recurses := true, named := ["errors.errorType"], apart := false, laid := [("errors.errorType", laid_errors_errorType)] }
def ShapePlacesSaid : Prop := shapePlacesRow.holds Tryd.pinned (OpenSpec.ofChange shapePlacesSpec)

/-- ITS FALSE NEIGHBOUR: 'it returns false'. Refute it at one input. -/
def shapePlacesWrong : ChangeSpec := { name := "shapePlaces", fn := fun _ => fun
  | [d1, d2, d3] => { results := [.lit (.bool false)], args := [d1, d2, d3] }
  | _ => none }
def ShapePlacesWrongFalsely : Prop := shapePlacesRow.holds Tryd.pinned (OpenSpec.ofChange shapePlacesWrong)

/-- 'ravelinlaw1.CellTwos': WHATEVER THE INPUT: true; the input reads as it did. -/
def cellTwosSpec : ChangeSpec := { name := "cellTwos", fn := fun _ => fun
  | [d1, d2, d3] => { results := [.lit (.bool true)], args := [d1, d2, d3] }
  | _ => none }
def cellTwosRow : OpenClaim := { program := "ytldhklbpmfckcaadoor", sum := "43285b29029d51680b5f823e2df65f44db4a684eceefb710ea30093223751751", func := "ravelin/ravelinlaw1.CellTwos", spec := "cellTwos", inPlace := ["internal/reflectlite.ValueOf", "(internal/reflectlite.Value).Type", "(internal/reflectlite.Value).IsNil", "internal/reflectlite.TypeOf", "(internal/reflectlite.Value).Elem", "(internal/reflectlite.Value).Set"], unfollowed := true, recurses := true, named := ["errors.errorType"], apart := false, laid := [("errors.errorType", laid_errors_errorType)] }
def CellTwosSaid : Prop := cellTwosRow.holds Tryd.pinned (OpenSpec.ofChange cellTwosSpec)

/-- ITS FALSE NEIGHBOUR: 'it returns false'. Refute it at one input. -/
def cellTwosWrong : ChangeSpec := { name := "cellTwos", fn := fun _ => fun
  | [d1, d2, d3] => { results := [.lit (.bool false)], args := [d1, d2, d3] }
  | _ => none }
def CellTwosWrongFalsely : Prop := cellTwosRow.holds Tryd.pinned (OpenSpec.ofChange cellTwosWrong)

/-- 'ravelinlaw1.CellDivides': WHATEVER THE INPUT: true; the input reads as it did. -/
def cellDividesSpec : ChangeSpec := { name := "cellDivides", fn := fun _ => fun
  | [d1, d2] => { results := [.lit (.bool true)], args := [d1, d2] }
  | _ => none }
def cellDividesRow : OpenClaim := { program := "ytldhklbpmfckcaadoor", sum := "43285b29029d51680b5f823e2df65f44db4a684eceefb710ea30093223751751", func := "ravelin/ravelinlaw1.CellDivides", spec := "cellDivides", inPlace := ["internal/reflectlite.ValueOf", "(internal/reflectlite.Value).Type", "(internal/reflectlite.Value).IsNil", "internal/reflectlite.TypeOf", "(internal/reflectlite.Value).Elem", "(internal/reflectlite.Value).Set"], unfollowed := true, recurses := true, named := ["errors.errorType"], apart := false, laid := [("errors.errorType", laid_errors_errorType)] }
def CellDividesSaid : Prop := cellDividesRow.holds Tryd.pinned (OpenSpec.ofChange cellDividesSpec)

/-- ITS FALSE NEIGHBOUR: 'it returns false'. Refute it at one input. -/
def cellDividesWrong : ChangeSpec := { name := "cellDivides", fn := fun _ => fun
  | [d1, d2] => { results := [.lit (.bool false)], args := [d1, d2] }
  | _ => none }
def CellDividesWrongFalsely : Prop := cellDividesRow.holds Tryd.pinned (OpenSpec.ofChange cellDividesWrong)

/- THE SECOND FORM. 'bulk': how many values and letters a reading holds, each counted each time it is reached (what is shared counts as often as it is met; a slice's spare places count too). A statement '..UptoSaid' is the law's where the arguments, and the package variables that the reading takes, are together of bulk at most 1048576: NARROWER than '..Said'. Prove '..Said' where nothing that the law and all that it calls make is longer than what came in: it says more and counts as full. Else prove '..UptoSaid'. A law counts once. -/
mutual
def uptoBulk {H : Type} : DataW H → Nat
  | .lit (.string bytes) => bytes.length + 1
  | .lit _ => 1
  | .nil => 1
  | .ptr d => uptoBulk d + 1
  | .slice elems spare => uptoBulkAll elems + uptoBulkAll spare + 1
  | .agg parts => uptoBulkAll parts + 1
  | .iface _ d => uptoBulk d + 1
  | .map entries => uptoBulkEntries entries + 1
  | .held _ => 1
def uptoBulkAll {H : Type} : List (DataW H) → Nat
  | [] => 0
  | d :: r => uptoBulk d + uptoBulkAll r
def uptoBulkEntries {H : Type} : List (Lit × DataW H) → Nat
  | [] => 0
  | x :: r => uptoBulkEntry x + uptoBulkEntries r
def uptoBulkEntry {H : Type} : Lit × DataW H → Nat
  | (.string bytes, d) => bytes.length + uptoBulk d + 1
  | (_, d) => uptoBulk d + 1
 end
def uptoSmall : (H : Type) → List (DataW H) → Bool := fun _ ds => decide (uptoBulkAll ds ≤ 1048576)
def OpenSpec.upto (s : _root_.Go.ChangeSpec) : _root_.Go.OpenSpec := { _root_.Go.OpenSpec.ofChange s with cond := some uptoSmall }

/-- 'ravelinlaw1.CellNeutrals', WHERE WHAT IT READS IS OF BULK AT MOST 1048576: true; the input reads as it did. -/
def cellNeutralsUptoRow : OpenClaim := { program := "ytldhklbpmfckcaadoor", sum := "43285b29029d51680b5f823e2df65f44db4a684eceefb710ea30093223751751", func := "ravelin/ravelinlaw1.CellNeutrals", spec := "cellNeutrals", inPlace := ["internal/reflectlite.ValueOf", "(internal/reflectlite.Value).Type", "(internal/reflectlite.Value).IsNil", "internal/reflectlite.TypeOf", "(internal/reflectlite.Value).Elem", "(internal/reflectlite.Value).Set"], unfollowed := true, recurses := true, named := ["errors.errorType"], apart := false, laid := [("errors.errorType", laid_errors_errorType)], narrowed := true }
def CellNeutralsUptoSaid : Prop := cellNeutralsUptoRow.holds Tryd.pinned (OpenSpec.upto cellNeutralsSpec)

/-- 'ravelinlaw1.CellBezouts', WHERE WHAT IT READS IS OF BULK AT MOST 1048576: true; the input reads as it did. -/
def cellBezoutsUptoRow : OpenClaim := { program := "ytldhklbpmfckcaadoor", sum := "43285b29029d51680b5f823e2df65f44db4a684eceefb710ea30093223751751", func := "ravelin/ravelinlaw1.CellBezouts", spec := "cellBezouts", inPlace := ["internal/reflectlite.ValueOf", "(internal/reflectlite.Value).Type", "(internal/reflectlite.Value).IsNil", "internal/reflectlite.TypeOf", "(internal/reflectlite.Value).Elem", "(internal/reflectlite.Value).Set"], unfollowed := true, recurses := true, named := ["errors.errorType"], apart := false, laid := [("errors.errorType", laid_errors_errorType)], narrowed := true }
def CellBezoutsUptoSaid : Prop := cellBezoutsUptoRow.holds Tryd.pinned (OpenSpec.upto cellBezoutsSpec)

/-- 'ravelinlaw1.ShapeCounts', WHERE WHAT IT READS IS OF BULK AT MOST 1048576: true; the input reads as it did. -/
def shapeCountsUptoRow : OpenClaim := { program := "ytldhklbpmfckcaadoor", sum := "43285b29029d51680b5f823e2df65f44db4a684eceefb710ea30093223751751", func := "ravelin/ravelinlaw1.ShapeCounts", spec := "shapeCounts", inPlace := ["internal/reflectlite.ValueOf", "(internal/reflectlite.Value).Type", "(internal/reflectlite.Value).IsNil", "internal/reflectlite.TypeOf", "(internal/reflectlite.Value).Elem", "(internal/reflectlite.Value).Set"], unfollowed := true, recurses := true, named := ["errors.errorType"], apart := false, laid := [("errors.errorType", laid_errors_errorType)], narrowed := true }
def ShapeCountsUptoSaid : Prop := shapeCountsUptoRow.holds Tryd.pinned (OpenSpec.upto shapeCountsSpec)

/-- 'ravelinlaw1.CellOnes', WHERE WHAT IT READS IS OF BULK AT MOST 1048576: true; the input reads as it did. -/
def cellOnesUptoRow : OpenClaim := { program := "ytldhklbpmfckcaadoor", sum := "43285b29029d51680b5f823e2df65f44db4a684eceefb710ea30093223751751", func := "ravelin/ravelinlaw1.CellOnes", spec := "cellOnes", inPlace := ["internal/reflectlite.ValueOf", "(internal/reflectlite.Value).Type", "(internal/reflectlite.Value).IsNil", "internal/reflectlite.TypeOf", "(internal/reflectlite.Value).Elem", "(internal/reflectlite.Value).Set"], unfollowed := true, recurses := true, named := ["errors.errorType"], apart := false, laid := [("errors.errorType", laid_errors_errorType)], narrowed := true }
def CellOnesUptoSaid : Prop := cellOnesUptoRow.holds Tryd.pinned (OpenSpec.upto cellOnesSpec)

/-- 'ravelinlaw1.ShapeAxes', WHERE WHAT IT READS IS OF BULK AT MOST 1048576: true; the input reads as it did. -/
def shapeAxesUptoRow : OpenClaim := { program := "ytldhklbpmfckcaadoor", sum := "43285b29029d51680b5f823e2df65f44db4a684eceefb710ea30093223751751", func := "ravelin/ravelinlaw1.ShapeAxes", spec := "shapeAxes", inPlace := ["internal/reflectlite.ValueOf", "(internal/reflectlite.Value).Type", "(internal/reflectlite.Value).IsNil", "internal/reflectlite.TypeOf", "(internal/reflectlite.Value).Elem", "(internal/reflectlite.Value).Set"], unfollowed := true, recurses := true, named := ["errors.errorType"], apart := false, laid := [("errors.errorType", laid_errors_errorType)], narrowed := true }
def ShapeAxesUptoSaid : Prop := shapeAxesUptoRow.holds Tryd.pinned (OpenSpec.upto shapeAxesSpec)

/-- 'ravelinlaw1.ShapePlaces', WHERE WHAT IT READS IS OF BULK AT MOST 1048576: true; the input reads as it did. -/
def shapePlacesUptoRow : OpenClaim := { program := "ytldhklbpmfckcaadoor", sum := "43285b29029d51680b5f823e2df65f44db4a684eceefb710ea30093223751751", func := "ravelin/ravelinlaw1.ShapePlaces", spec := "shapePlaces", inPlace := ["internal/reflectlite.ValueOf", "(internal/reflectlite.Value).Type", "(internal/reflectlite.Value).IsNil", "internal/reflectlite.TypeOf", "(internal/reflectlite.Value).Elem", "(internal/reflectlite.Value).Set"], unfollowed := true, recurses := true, named := ["errors.errorType"], apart := false, laid := [("errors.errorType", laid_errors_errorType)], narrowed := true }
def ShapePlacesUptoSaid : Prop := shapePlacesUptoRow.holds Tryd.pinned (OpenSpec.upto shapePlacesSpec)

/-- 'ravelinlaw1.CellTwos', WHERE WHAT IT READS IS OF BULK AT MOST 1048576: true; the input reads as it did. -/
def cellTwosUptoRow : OpenClaim := { program := "ytldhklbpmfckcaadoor", sum := "43285b29029d51680b5f823e2df65f44db4a684eceefb710ea30093223751751", func := "ravelin/ravelinlaw1.CellTwos", spec := "cellTwos", inPlace := ["internal/reflectlite.ValueOf", "(internal/reflectlite.Value).Type", "(internal/reflectlite.Value).IsNil", "internal/reflectlite.TypeOf", "(internal/reflectlite.Value).Elem", "(internal/reflectlite.Value).Set"], unfollowed := true, recurses := true, named := ["errors.errorType"], apart := false, laid := [("errors.errorType", laid_errors_errorType)], narrowed := true }
def CellTwosUptoSaid : Prop := cellTwosUptoRow.holds Tryd.pinned (OpenSpec.upto cellTwosSpec)

/-- 'ravelinlaw1.CellDivides', WHERE WHAT IT READS IS OF BULK AT MOST 1048576: true; the input reads as it did. -/
def cellDividesUptoRow : OpenClaim := { program := "ytldhklbpmfckcaadoor", sum := "43285b29029d51680b5f823e2df65f44db4a684eceefb710ea30093223751751", func := "ravelin/ravelinlaw1.CellDivides", spec := "cellDivides", inPlace := ["internal/reflectlite.ValueOf", "(internal/reflectlite.Value).Type", "(internal/reflectlite.Value).IsNil", "internal/reflectlite.TypeOf", "(internal/reflectlite.Value).Elem", "(internal/reflectlite.Value).Set"], unfollowed := true, recurses := true, named := ["errors.errorType"], apart := false, laid := [("errors.errorType", laid_errors_errorType)], narrowed := true }
def CellDividesUptoSaid : Prop := cellDividesUptoRow.holds Tryd.pinned (OpenSpec.upto cellDividesSpec)

end Rows
end Go.Proofs.YtldhklbpmfckcaaDoor
