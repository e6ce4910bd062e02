/-
  DERIVED. GIVEN WITH THE SEED: THE CARDS: each row of YtcenhemlgapkeaaDoorRows.lean that lists a variable, with what it lists TIED to the program's text (the seventh form; the later family's looks); each row that meets fmt, with fmt's text TOLD by the authors' own Lean function (tested against real Go, not proved from fmt's source: count such statements apart). THE CARD IS WHAT COUNTS. Prove the row's statement (the work); the ties are given (YtcenhemlgapkeaaDoorTie.lean); close each card by the builder's one call (the guide's Derived/Test/ToyasCard.lean, 'card_holds'). Laid BY PROGRAM, IN A SANDBOX (cutbox-door.mjs). By AI agents, Wed Nov 11 2026. No macro, syntax, notation, axiom, sorry.
-/
import Derived.Test.YtcenhemlgapkeaaDoorRows
import GoSem.ClaimSeven
namespace Go.Proofs.YtcenhemlgapkeaaDoor
namespace Rows

/-- THE TIED CARD OF 'ravelinlaw1.ArrSpells'. -/
def arrSpellsCard : Claim7 := { stood := { row := arrSpellsRow, standIns := [], harness := (true, "b99e097c96ebc5c0bd50f1716f3ec1bc7a16c965b0ccb592558f195c07692a11"), looks := true }, kinds := [], alts := [], laidByText := true, laidKinds := [.data, .pinned], laidTests := true, laidLooks := .later }
def ArrSpellsCardSaid : Prop := Claim7.holds Tryd.pinned (.plain (OpenSpec.ofChange arrSpellsSpec)) arrSpellsCard

/-- THE TIED CARD OF 'ravelinlaw1.ArrTexts'. -/
def arrTextsCard : Claim7 := { stood := { row := arrTextsRow, standIns := [], harness := (true, "b99e097c96ebc5c0bd50f1716f3ec1bc7a16c965b0ccb592558f195c07692a11"), looks := true }, kinds := [], alts := [], laidByText := true, laidKinds := [.data, .handle, .pinned], laidTests := true, laidLooks := .later }
def ArrTextsCardSaid : Prop := Claim7.holds Tryd.pinned (.plain (OpenSpec.ofChange arrTextsSpec)) arrTextsCard

/-- THE TIED CARD OF 'ravelinlaw4.MatrixPowers'. -/
def matrixPowersCard : Claim7 := { stood := { row := matrixPowersRow, standIns := [], harness := (true, "b99e097c96ebc5c0bd50f1716f3ec1bc7a16c965b0ccb592558f195c07692a11"), looks := true }, kinds := [], alts := [], laidByText := true, laidKinds := [.handle], laidTests := true, laidLooks := .later }
def MatrixPowersCardSaid : Prop := Claim7.holds Tryd.pinned (.plain (OpenSpec.ofChange matrixPowersSpec)) matrixPowersCard

/-- THE TIED CARD OF 'ravelinlaw4.MatrixDets'. -/
def matrixDetsCard : Claim7 := { stood := { row := matrixDetsRow, standIns := [], harness := (true, "b99e097c96ebc5c0bd50f1716f3ec1bc7a16c965b0ccb592558f195c07692a11"), looks := true }, kinds := [], alts := [], laidByText := true, laidKinds := [.handle], laidTests := true, laidLooks := .later }
def MatrixDetsCardSaid : Prop := Claim7.holds Tryd.pinned (.plain (OpenSpec.ofChange matrixDetsSpec)) matrixDetsCard

/-- THE TIED CARD OF 'ravelinlaw4.MatrixAdjugates'. -/
def matrixAdjugatesCard : Claim7 := { stood := { row := matrixAdjugatesRow, standIns := [], harness := (true, "b99e097c96ebc5c0bd50f1716f3ec1bc7a16c965b0ccb592558f195c07692a11"), looks := true }, kinds := [], alts := [], laidByText := true, laidKinds := [.handle], laidTests := true, laidLooks := .later }
def MatrixAdjugatesCardSaid : Prop := Claim7.holds Tryd.pinned (.plain (OpenSpec.ofChange matrixAdjugatesSpec)) matrixAdjugatesCard

/-- THE TIED CARD OF 'ravelinlaw4.MatrixInverses'. -/
def matrixInversesCard : Claim7 := { stood := { row := matrixInversesRow, standIns := [], harness := (true, "b99e097c96ebc5c0bd50f1716f3ec1bc7a16c965b0ccb592558f195c07692a11"), looks := true }, kinds := [], alts := [], laidByText := true, laidKinds := [.handle], laidTests := true, laidLooks := .later }
def MatrixInversesCardSaid : Prop := Claim7.holds Tryd.pinned (.plain (OpenSpec.ofChange matrixInversesSpec)) matrixInversesCard

/-- THE TIED CARD OF 'ravelinlaw4.ProdOuters'. -/
def prodOutersCard : Claim7 := { stood := { row := prodOutersRow, standIns := [], harness := (true, "b99e097c96ebc5c0bd50f1716f3ec1bc7a16c965b0ccb592558f195c07692a11"), looks := true }, kinds := [], alts := [], laidByText := true, laidKinds := [.handle], laidTests := true, laidLooks := .later }
def ProdOutersCardSaid : Prop := Claim7.holds Tryd.pinned (.plain (OpenSpec.ofChange prodOutersSpec)) prodOutersCard

/-- THE TIED CARD OF 'ravelinlaw4.ProdInners'. -/
def prodInnersCard : Claim7 := { stood := { row := prodInnersRow, standIns := [], harness := (true, "b99e097c96ebc5c0bd50f1716f3ec1bc7a16c965b0ccb592558f195c07692a11"), looks := true }, kinds := [], alts := [], laidByText := true, laidKinds := [.handle], laidTests := true, laidLooks := .later }
def ProdInnersCardSaid : Prop := Claim7.holds Tryd.pinned (.plain (OpenSpec.ofChange prodInnersSpec)) prodInnersCard

/-- THE TIED CARD OF 'ravelinlaw4.MatrixBack'. -/
def matrixBackCard : Claim7 := { stood := { row := matrixBackRow, standIns := [], harness := (true, "b99e097c96ebc5c0bd50f1716f3ec1bc7a16c965b0ccb592558f195c07692a11"), looks := true }, kinds := [], alts := [], laidByText := true, laidKinds := [.handle], laidTests := true, laidLooks := .later }
def MatrixBackCardSaid : Prop := Claim7.holds Tryd.pinned (.plain (OpenSpec.ofChange matrixBackSpec)) matrixBackCard

/-- THE SECOND FORM's CARD OF 'ravelinlaw1.ArrSpells'. -/
def arrSpellsUptoCard : Claim7 := { stood := { row := arrSpellsUptoRow, standIns := [], harness := (true, "b99e097c96ebc5c0bd50f1716f3ec1bc7a16c965b0ccb592558f195c07692a11"), looks := true }, kinds := [], alts := [], laidByText := true, laidKinds := [.data, .pinned], laidTests := true, laidLooks := .later }
def ArrSpellsUptoCardSaid : Prop := Claim7.holds Tryd.pinned (.plain (OpenSpec.upto arrSpellsSpec)) arrSpellsUptoCard

/-- THE SECOND FORM's CARD OF 'ravelinlaw1.ArrTexts'. -/
def arrTextsUptoCard : Claim7 := { stood := { row := arrTextsUptoRow, standIns := [], harness := (true, "b99e097c96ebc5c0bd50f1716f3ec1bc7a16c965b0ccb592558f195c07692a11"), looks := true }, kinds := [], alts := [], laidByText := true, laidKinds := [.data, .handle, .pinned], laidTests := true, laidLooks := .later }
def ArrTextsUptoCardSaid : Prop := Claim7.holds Tryd.pinned (.plain (OpenSpec.upto arrTextsSpec)) arrTextsUptoCard

/-- THE SECOND FORM's CARD OF 'ravelinlaw4.MatrixPowers'. -/
def matrixPowersUptoCard : Claim7 := { stood := { row := matrixPowersUptoRow, standIns := [], harness := (true, "b99e097c96ebc5c0bd50f1716f3ec1bc7a16c965b0ccb592558f195c07692a11"), looks := true }, kinds := [], alts := [], laidByText := true, laidKinds := [.handle], laidTests := true, laidLooks := .later }
def MatrixPowersUptoCardSaid : Prop := Claim7.holds Tryd.pinned (.plain (OpenSpec.upto matrixPowersSpec)) matrixPowersUptoCard

/-- THE SECOND FORM's CARD OF 'ravelinlaw4.MatrixDets'. -/
def matrixDetsUptoCard : Claim7 := { stood := { row := matrixDetsUptoRow, standIns := [], harness := (true, "b99e097c96ebc5c0bd50f1716f3ec1bc7a16c965b0ccb592558f195c07692a11"), looks := true }, kinds := [], alts := [], laidByText := true, laidKinds := [.handle], laidTests := true, laidLooks := .later }
def MatrixDetsUptoCardSaid : Prop := Claim7.holds Tryd.pinned (.plain (OpenSpec.upto matrixDetsSpec)) matrixDetsUptoCard

/-- THE SECOND FORM's CARD OF 'ravelinlaw4.MatrixAdjugates'. -/
def matrixAdjugatesUptoCard : Claim7 := { stood := { row := matrixAdjugatesUptoRow, standIns := [], harness := (true, "b99e097c96ebc5c0bd50f1716f3ec1bc7a16c965b0ccb592558f195c07692a11"), looks := true }, kinds := [], alts := [], laidByText := true, laidKinds := [.handle], laidTests := true, laidLooks := .later }
def MatrixAdjugatesUptoCardSaid : Prop := Claim7.holds Tryd.pinned (.plain (OpenSpec.upto matrixAdjugatesSpec)) matrixAdjugatesUptoCard

/-- THE SECOND FORM's CARD OF 'ravelinlaw4.MatrixInverses'. -/
def matrixInversesUptoCard : Claim7 := { stood := { row := matrixInversesUptoRow, standIns := [], harness := (true, "b99e097c96ebc5c0bd50f1716f3ec1bc7a16c965b0ccb592558f195c07692a11"), looks := true }, kinds := [], alts := [], laidByText := true, laidKinds := [.handle], laidTests := true, laidLooks := .later }
def MatrixInversesUptoCardSaid : Prop := Claim7.holds Tryd.pinned (.plain (OpenSpec.upto matrixInversesSpec)) matrixInversesUptoCard

/-- THE SECOND FORM's CARD OF 'ravelinlaw4.ProdOuters'. -/
def prodOutersUptoCard : Claim7 := { stood := { row := prodOutersUptoRow, standIns := [], harness := (true, "b99e097c96ebc5c0bd50f1716f3ec1bc7a16c965b0ccb592558f195c07692a11"), looks := true }, kinds := [], alts := [], laidByText := true, laidKinds := [.handle], laidTests := true, laidLooks := .later }
def ProdOutersUptoCardSaid : Prop := Claim7.holds Tryd.pinned (.plain (OpenSpec.upto prodOutersSpec)) prodOutersUptoCard

/-- THE SECOND FORM's CARD OF 'ravelinlaw4.ProdInners'. -/
def prodInnersUptoCard : Claim7 := { stood := { row := prodInnersUptoRow, standIns := [], harness := (true, "b99e097c96ebc5c0bd50f1716f3ec1bc7a16c965b0ccb592558f195c07692a11"), looks := true }, kinds := [], alts := [], laidByText := true, laidKinds := [.handle], laidTests := true, laidLooks := .later }
def ProdInnersUptoCardSaid : Prop := Claim7.holds Tryd.pinned (.plain (OpenSpec.upto prodInnersSpec)) prodInnersUptoCard

/-- THE SECOND FORM's CARD OF 'ravelinlaw4.MatrixBack'. -/
def matrixBackUptoCard : Claim7 := { stood := { row := matrixBackUptoRow, standIns := [], harness := (true, "b99e097c96ebc5c0bd50f1716f3ec1bc7a16c965b0ccb592558f195c07692a11"), looks := true }, kinds := [], alts := [], laidByText := true, laidKinds := [.handle], laidTests := true, laidLooks := .later }
def MatrixBackUptoCardSaid : Prop := Claim7.holds Tryd.pinned (.plain (OpenSpec.upto matrixBackSpec)) matrixBackUptoCard
end Rows
end Go.Proofs.YtcenhemlgapkeaaDoor
