/-
  DERIVED. GIVEN WITH THE SEED: THE CARDS: each row of YtldhklbpmfckcaaDoorRows.lean that lists a variable, with what it lists TIED to the program's text (the seventh form; the later family's looks); each row that meets fmt, with fmt's text TOLD by the authors' own Lean function (tested against real Go, not proved from fmt's source: count such statements apart). THE CARD IS WHAT COUNTS. Prove the row's statement (the work); the ties are given (YtldhklbpmfckcaaDoorTie.lean); close each card by the builder's one call (the guide's Derived/Test/ToyasCard.lean, 'card_holds'). Laid BY PROGRAM, IN A SANDBOX (cutbox-door.mjs). By AI agents, Wed Nov 11 2026. No macro, syntax, notation, axiom, sorry.
-/
import Derived.Test.YtldhklbpmfckcaaDoorRows
import GoSem.ClaimSeven
namespace Go.Proofs.YtldhklbpmfckcaaDoor
namespace Rows

/-- THE TIED CARD OF 'ravelinlaw1.CellNeutrals'. -/
def cellNeutralsCard : Claim7 := { stood := { row := cellNeutralsRow, standIns := [], harness := (true, "42ad149e94c00cc6c64ce56215104cc4ddd60fbccfa7e7f1768fd3db2de7f703"), looks := true }, kinds := [], alts := [], laidByText := true, laidKinds := [.handle], laidTests := true, laidLooks := .later }
def CellNeutralsCardSaid : Prop := Claim7.holds Tryd.pinned (.plain (OpenSpec.ofChange cellNeutralsSpec)) cellNeutralsCard

/-- THE TIED CARD OF 'ravelinlaw1.CellBezouts'. -/
def cellBezoutsCard : Claim7 := { stood := { row := cellBezoutsRow, standIns := [], harness := (true, "42ad149e94c00cc6c64ce56215104cc4ddd60fbccfa7e7f1768fd3db2de7f703"), looks := true }, kinds := [], alts := [], laidByText := true, laidKinds := [.handle], laidTests := true, laidLooks := .later }
def CellBezoutsCardSaid : Prop := Claim7.holds Tryd.pinned (.plain (OpenSpec.ofChange cellBezoutsSpec)) cellBezoutsCard

/-- THE TIED CARD OF 'ravelinlaw1.ShapeCounts'. -/
def shapeCountsCard : Claim7 := { stood := { row := shapeCountsRow, standIns := [], harness := (true, "42ad149e94c00cc6c64ce56215104cc4ddd60fbccfa7e7f1768fd3db2de7f703"), looks := true }, kinds := [], alts := [], laidByText := true, laidKinds := [.handle], laidTests := true, laidLooks := .later }
def ShapeCountsCardSaid : Prop := Claim7.holds Tryd.pinned (.plain (OpenSpec.ofChange shapeCountsSpec)) shapeCountsCard

/-- THE TIED CARD OF 'ravelinlaw1.CellOnes'. -/
def cellOnesCard : Claim7 := { stood := { row := cellOnesRow, standIns := [], harness := (true, "42ad149e94c00cc6c64ce56215104cc4ddd60fbccfa7e7f1768fd3db2de7f703"), looks := true }, kinds := [], alts := [], laidByText := true, laidKinds := [.handle], laidTests := true, laidLooks := .later }
def CellOnesCardSaid : Prop := Claim7.holds Tryd.pinned (.plain (OpenSpec.ofChange cellOnesSpec)) cellOnesCard

/-- THE TIED CARD OF 'ravelinlaw1.ShapeAxes'. -/
def shapeAxesCard : Claim7 := { stood := { row := shapeAxesRow, standIns := [], harness := (true, "42ad149e94c00cc6c64ce56215104cc4ddd60fbccfa7e7f1768fd3db2de7f703"), looks := true }, kinds := [], alts := [], laidByText := true, laidKinds := [.handle], laidTests := true, laidLooks := .later }
def ShapeAxesCardSaid : Prop := Claim7.holds Tryd.pinned (.plain (OpenSpec.ofChange shapeAxesSpec)) shapeAxesCard

/-- THE TIED CARD OF 'ravelinlaw1.ShapePlaces'. -/
def shapePlacesCard : Claim7 := { stood := { row := shapePlacesRow, standIns := [], harness := (true, "42ad149e94c00cc6c64ce56215104cc4ddd60fbccfa7e7f1768fd3db2de7f703"), looks := true }, kinds := [], alts := [], laidByText := true, laidKinds := [.handle], laidTests := true, laidLooks := .later }
def ShapePlacesCardSaid : Prop := Claim7.holds Tryd.pinned (.plain (OpenSpec.ofChange shapePlacesSpec)) shapePlacesCard

/-- THE TIED CARD OF 'ravelinlaw1.CellTwos'. -/
def cellTwosCard : Claim7 := { stood := { row := cellTwosRow, standIns := [], harness := (true, "42ad149e94c00cc6c64ce56215104cc4ddd60fbccfa7e7f1768fd3db2de7f703"), looks := true }, kinds := [], alts := [], laidByText := true, laidKinds := [.handle], laidTests := true, laidLooks := .later }
def CellTwosCardSaid : Prop := Claim7.holds Tryd.pinned (.plain (OpenSpec.ofChange cellTwosSpec)) cellTwosCard

/-- THE TIED CARD OF 'ravelinlaw1.CellDivides'. -/
def cellDividesCard : Claim7 := { stood := { row := cellDividesRow, standIns := [], harness := (true, "42ad149e94c00cc6c64ce56215104cc4ddd60fbccfa7e7f1768fd3db2de7f703"), looks := true }, kinds := [], alts := [], laidByText := true, laidKinds := [.handle], laidTests := true, laidLooks := .later }
def CellDividesCardSaid : Prop := Claim7.holds Tryd.pinned (.plain (OpenSpec.ofChange cellDividesSpec)) cellDividesCard

/-- THE SECOND FORM's CARD OF 'ravelinlaw1.CellNeutrals'. -/
def cellNeutralsUptoCard : Claim7 := { stood := { row := cellNeutralsUptoRow, standIns := [], harness := (true, "42ad149e94c00cc6c64ce56215104cc4ddd60fbccfa7e7f1768fd3db2de7f703"), looks := true }, kinds := [], alts := [], laidByText := true, laidKinds := [.handle], laidTests := true, laidLooks := .later }
def CellNeutralsUptoCardSaid : Prop := Claim7.holds Tryd.pinned (.plain (OpenSpec.upto cellNeutralsSpec)) cellNeutralsUptoCard

/-- THE SECOND FORM's CARD OF 'ravelinlaw1.CellBezouts'. -/
def cellBezoutsUptoCard : Claim7 := { stood := { row := cellBezoutsUptoRow, standIns := [], harness := (true, "42ad149e94c00cc6c64ce56215104cc4ddd60fbccfa7e7f1768fd3db2de7f703"), looks := true }, kinds := [], alts := [], laidByText := true, laidKinds := [.handle], laidTests := true, laidLooks := .later }
def CellBezoutsUptoCardSaid : Prop := Claim7.holds Tryd.pinned (.plain (OpenSpec.upto cellBezoutsSpec)) cellBezoutsUptoCard

/-- THE SECOND FORM's CARD OF 'ravelinlaw1.ShapeCounts'. -/
def shapeCountsUptoCard : Claim7 := { stood := { row := shapeCountsUptoRow, standIns := [], harness := (true, "42ad149e94c00cc6c64ce56215104cc4ddd60fbccfa7e7f1768fd3db2de7f703"), looks := true }, kinds := [], alts := [], laidByText := true, laidKinds := [.handle], laidTests := true, laidLooks := .later }
def ShapeCountsUptoCardSaid : Prop := Claim7.holds Tryd.pinned (.plain (OpenSpec.upto shapeCountsSpec)) shapeCountsUptoCard

/-- THE SECOND FORM's CARD OF 'ravelinlaw1.CellOnes'. -/
def cellOnesUptoCard : Claim7 := { stood := { row := cellOnesUptoRow, standIns := [], harness := (true, "42ad149e94c00cc6c64ce56215104cc4ddd60fbccfa7e7f1768fd3db2de7f703"), looks := true }, kinds := [], alts := [], laidByText := true, laidKinds := [.handle], laidTests := true, laidLooks := .later }
def CellOnesUptoCardSaid : Prop := Claim7.holds Tryd.pinned (.plain (OpenSpec.upto cellOnesSpec)) cellOnesUptoCard

/-- THE SECOND FORM's CARD OF 'ravelinlaw1.ShapeAxes'. -/
def shapeAxesUptoCard : Claim7 := { stood := { row := shapeAxesUptoRow, standIns := [], harness := (true, "42ad149e94c00cc6c64ce56215104cc4ddd60fbccfa7e7f1768fd3db2de7f703"), looks := true }, kinds := [], alts := [], laidByText := true, laidKinds := [.handle], laidTests := true, laidLooks := .later }
def ShapeAxesUptoCardSaid : Prop := Claim7.holds Tryd.pinned (.plain (OpenSpec.upto shapeAxesSpec)) shapeAxesUptoCard

/-- THE SECOND FORM's CARD OF 'ravelinlaw1.ShapePlaces'. -/
def shapePlacesUptoCard : Claim7 := { stood := { row := shapePlacesUptoRow, standIns := [], harness := (true, "42ad149e94c00cc6c64ce56215104cc4ddd60fbccfa7e7f1768fd3db2de7f703"), looks := true }, kinds := [], alts := [], laidByText := true, laidKinds := [.handle], laidTests := true, laidLooks := .later }
def ShapePlacesUptoCardSaid : Prop := Claim7.holds Tryd.pinned (.plain (OpenSpec.upto shapePlacesSpec)) shapePlacesUptoCard

/-- THE SECOND FORM's CARD OF 'ravelinlaw1.CellTwos'. -/
def cellTwosUptoCard : Claim7 := { stood := { row := cellTwosUptoRow, standIns := [], harness := (true, "42ad149e94c00cc6c64ce56215104cc4ddd60fbccfa7e7f1768fd3db2de7f703"), looks := true }, kinds := [], alts := [], laidByText := true, laidKinds := [.handle], laidTests := true, laidLooks := .later }
def CellTwosUptoCardSaid : Prop := Claim7.holds Tryd.pinned (.plain (OpenSpec.upto cellTwosSpec)) cellTwosUptoCard

/-- THE SECOND FORM's CARD OF 'ravelinlaw1.CellDivides'. -/
def cellDividesUptoCard : Claim7 := { stood := { row := cellDividesUptoRow, standIns := [], harness := (true, "42ad149e94c00cc6c64ce56215104cc4ddd60fbccfa7e7f1768fd3db2de7f703"), looks := true }, kinds := [], alts := [], laidByText := true, laidKinds := [.handle], laidTests := true, laidLooks := .later }
def CellDividesUptoCardSaid : Prop := Claim7.holds Tryd.pinned (.plain (OpenSpec.upto cellDividesSpec)) cellDividesUptoCard
end Rows
end Go.Proofs.YtldhklbpmfckcaaDoor
