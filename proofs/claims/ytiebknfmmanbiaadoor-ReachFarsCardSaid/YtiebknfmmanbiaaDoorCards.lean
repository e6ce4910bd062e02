/-
  DERIVED. GIVEN WITH THE SEED: THE CARDS: each row of YtiebknfmmanbiaaDoorRows.lean that lists a variable, with what it lists TIED to the program's text (the seventh form; the later family's looks); each row that meets fmt, with fmt's text TOLD by the authors' own Lean function (tested against real Go, not proved from fmt's source: count such statements apart). THE CARD IS WHAT COUNTS. Prove the row's statement (the work); the ties are given (YtiebknfmmanbiaaDoorTie.lean); close each card by the builder's one call (the guide's Derived/Test/ToyasCard.lean, 'card_holds'). Laid BY PROGRAM, IN A SANDBOX (cutbox-door.mjs). By AI agents, Wed Nov 11 2026. No macro, syntax, notation, axiom, sorry.
-/
import Derived.Test.YtiebknfmmanbiaaDoorRows
import GoSem.ClaimSeven
namespace Go.Proofs.YtiebknfmmanbiaaDoor
namespace Rows

/-- THE TIED CARD OF 'ravelinlaw1.ArrSpells'. -/
def arrSpellsCard : Claim7 := { stood := { row := arrSpellsRow, standIns := [], harness := (true, "120863713d46287aa79839086b66558350ab820d4d22f4f1cfd0e5a192c0538f"), looks := true }, kinds := [], alts := [], laidByText := true, laidKinds := [.data, .pinned], laidTests := true, laidLooks := .later }
def ArrSpellsCardSaid : Prop := Claim7.holds Tryd.pinned (.plain (OpenSpec.ofChange arrSpellsSpec)) arrSpellsCard

/-- THE TIED CARD OF 'ravelinlaw4.ReachNear'. -/
def reachNearCard : Claim7 := { stood := { row := reachNearRow, standIns := [], harness := (true, "120863713d46287aa79839086b66558350ab820d4d22f4f1cfd0e5a192c0538f"), looks := true }, kinds := [], alts := [], laidByText := true, laidKinds := [.data], laidTests := true, laidLooks := .later }
def ReachNearCardSaid : Prop := Claim7.holds Tryd.pinned (.plain (OpenSpec.ofChange reachNearSpec)) reachNearCard

/-- THE TIED CARD OF 'ravelinlaw1.ArrTexts'. -/
def arrTextsCard : Claim7 := { stood := { row := arrTextsRow, standIns := [], harness := (true, "120863713d46287aa79839086b66558350ab820d4d22f4f1cfd0e5a192c0538f"), looks := true }, kinds := [], alts := [], laidByText := true, laidKinds := [.data, .handle, .pinned], laidTests := true, laidLooks := .later }
def ArrTextsCardSaid : Prop := Claim7.holds Tryd.pinned (.plain (OpenSpec.ofChange arrTextsSpec)) arrTextsCard

/-- THE TIED CARD OF 'ravelinlaw1.ArrShapes'. -/
def arrShapesCard : Claim7 := { stood := { row := arrShapesRow, standIns := [], harness := (true, "120863713d46287aa79839086b66558350ab820d4d22f4f1cfd0e5a192c0538f"), looks := true }, kinds := [], alts := [], laidByText := true, laidKinds := [.handle], laidTests := true, laidLooks := .later }
def ArrShapesCardSaid : Prop := Claim7.holds Tryd.pinned (.plain (OpenSpec.ofChange arrShapesSpec)) arrShapesCard

/-- THE TIED CARD OF 'ravelinlaw4.ReachOrders'. -/
def reachOrdersCard : Claim7 := { stood := { row := reachOrdersRow, standIns := [], harness := (true, "120863713d46287aa79839086b66558350ab820d4d22f4f1cfd0e5a192c0538f"), looks := true }, kinds := [], alts := [], laidByText := true, laidKinds := [.handle], laidTests := true, laidLooks := .later }
def ReachOrdersCardSaid : Prop := Claim7.holds Tryd.pinned (.plain (OpenSpec.ofChange reachOrdersSpec)) reachOrdersCard

/-- THE TIED CARD OF 'ravelinlaw1.EachOnes'. -/
def eachOnesCard : Claim7 := { stood := { row := eachOnesRow, standIns := [], harness := (true, "120863713d46287aa79839086b66558350ab820d4d22f4f1cfd0e5a192c0538f"), looks := true }, kinds := [], alts := [], laidByText := true, laidKinds := [.handle], laidTests := true, laidLooks := .later }
def EachOnesCardSaid : Prop := Claim7.holds Tryd.pinned (.plain (OpenSpec.ofChange eachOnesSpec)) eachOnesCard

/-- THE TIED CARD OF 'ravelinlaw4.ReachFars'. -/
def reachFarsCard : Claim7 := { stood := { row := reachFarsRow, standIns := [], harness := (true, "120863713d46287aa79839086b66558350ab820d4d22f4f1cfd0e5a192c0538f"), looks := true }, kinds := [], alts := [], laidByText := true, laidKinds := [.data, .handle], laidTests := true, laidLooks := .later }
def ReachFarsCardSaid : Prop := Claim7.holds Tryd.pinned (.plain (OpenSpec.ofChange reachFarsSpec)) reachFarsCard

/-- THE TIED CARD OF 'ravelinlaw4.MatrixPowers'. -/
def matrixPowersCard : Claim7 := { stood := { row := matrixPowersRow, standIns := [], harness := (true, "120863713d46287aa79839086b66558350ab820d4d22f4f1cfd0e5a192c0538f"), looks := true }, kinds := [], alts := [], laidByText := true, laidKinds := [.handle], laidTests := true, laidLooks := .later }
def MatrixPowersCardSaid : Prop := Claim7.holds Tryd.pinned (.plain (OpenSpec.ofChange matrixPowersSpec)) matrixPowersCard

/-- THE TIED CARD OF 'ravelinlaw4.ReachCloses'. -/
def reachClosesCard : Claim7 := { stood := { row := reachClosesRow, standIns := [], harness := (true, "120863713d46287aa79839086b66558350ab820d4d22f4f1cfd0e5a192c0538f"), looks := true }, kinds := [], alts := [], laidByText := true, laidKinds := [.handle], laidTests := true, laidLooks := .later }
def ReachClosesCardSaid : Prop := Claim7.holds Tryd.pinned (.plain (OpenSpec.ofChange reachClosesSpec)) reachClosesCard

/-- THE TIED CARD OF 'ravelinlaw4.ReachAhead'. -/
def reachAheadCard : Claim7 := { stood := { row := reachAheadRow, standIns := [], harness := (true, "120863713d46287aa79839086b66558350ab820d4d22f4f1cfd0e5a192c0538f"), looks := true }, kinds := [], alts := [], laidByText := true, laidKinds := [.handle], laidTests := true, laidLooks := .later }
def ReachAheadCardSaid : Prop := Claim7.holds Tryd.pinned (.plain (OpenSpec.ofChange reachAheadSpec)) reachAheadCard

/-- THE TIED CARD OF 'ravelinlaw4.MatrixDets'. -/
def matrixDetsCard : Claim7 := { stood := { row := matrixDetsRow, standIns := [], harness := (true, "120863713d46287aa79839086b66558350ab820d4d22f4f1cfd0e5a192c0538f"), looks := true }, kinds := [], alts := [], laidByText := true, laidKinds := [.handle], laidTests := true, laidLooks := .later }
def MatrixDetsCardSaid : Prop := Claim7.holds Tryd.pinned (.plain (OpenSpec.ofChange matrixDetsSpec)) matrixDetsCard

/-- THE TIED CARD OF 'ravelinlaw4.MatrixAdjugates'. -/
def matrixAdjugatesCard : Claim7 := { stood := { row := matrixAdjugatesRow, standIns := [], harness := (true, "120863713d46287aa79839086b66558350ab820d4d22f4f1cfd0e5a192c0538f"), looks := true }, kinds := [], alts := [], laidByText := true, laidKinds := [.handle], laidTests := true, laidLooks := .later }
def MatrixAdjugatesCardSaid : Prop := Claim7.holds Tryd.pinned (.plain (OpenSpec.ofChange matrixAdjugatesSpec)) matrixAdjugatesCard

/-- THE TIED CARD OF 'ravelinlaw4.MatrixInverses'. -/
def matrixInversesCard : Claim7 := { stood := { row := matrixInversesRow, standIns := [], harness := (true, "120863713d46287aa79839086b66558350ab820d4d22f4f1cfd0e5a192c0538f"), looks := true }, kinds := [], alts := [], laidByText := true, laidKinds := [.handle], laidTests := true, laidLooks := .later }
def MatrixInversesCardSaid : Prop := Claim7.holds Tryd.pinned (.plain (OpenSpec.ofChange matrixInversesSpec)) matrixInversesCard

/-- THE TIED CARD OF 'ravelinlaw1.EachTwos'. -/
def eachTwosCard : Claim7 := { stood := { row := eachTwosRow, standIns := [], harness := (true, "120863713d46287aa79839086b66558350ab820d4d22f4f1cfd0e5a192c0538f"), looks := true }, kinds := [], alts := [], laidByText := true, laidKinds := [.handle], laidTests := true, laidLooks := .later }
def EachTwosCardSaid : Prop := Claim7.holds Tryd.pinned (.plain (OpenSpec.ofChange eachTwosSpec)) eachTwosCard

/-- THE TIED CARD OF 'ravelinlaw4.ProdOuters'. -/
def prodOutersCard : Claim7 := { stood := { row := prodOutersRow, standIns := [], harness := (true, "120863713d46287aa79839086b66558350ab820d4d22f4f1cfd0e5a192c0538f"), looks := true }, kinds := [], alts := [], laidByText := true, laidKinds := [.handle], laidTests := true, laidLooks := .later }
def ProdOutersCardSaid : Prop := Claim7.holds Tryd.pinned (.plain (OpenSpec.ofChange prodOutersSpec)) prodOutersCard

/-- THE TIED CARD OF 'ravelinlaw4.ProdInners'. -/
def prodInnersCard : Claim7 := { stood := { row := prodInnersRow, standIns := [], harness := (true, "120863713d46287aa79839086b66558350ab820d4d22f4f1cfd0e5a192c0538f"), looks := true }, kinds := [], alts := [], laidByText := true, laidKinds := [.handle], laidTests := true, laidLooks := .later }
def ProdInnersCardSaid : Prop := Claim7.holds Tryd.pinned (.plain (OpenSpec.ofChange prodInnersSpec)) prodInnersCard

/-- THE TIED CARD OF 'ravelinlaw4.MatrixBack'. -/
def matrixBackCard : Claim7 := { stood := { row := matrixBackRow, standIns := [], harness := (true, "120863713d46287aa79839086b66558350ab820d4d22f4f1cfd0e5a192c0538f"), looks := true }, kinds := [], alts := [], laidByText := true, laidKinds := [.handle], laidTests := true, laidLooks := .later }
def MatrixBackCardSaid : Prop := Claim7.holds Tryd.pinned (.plain (OpenSpec.ofChange matrixBackSpec)) matrixBackCard

/-- THE SECOND FORM's CARD OF 'ravelinlaw1.ArrSpells'. -/
def arrSpellsUptoCard : Claim7 := { stood := { row := arrSpellsUptoRow, standIns := [], harness := (true, "120863713d46287aa79839086b66558350ab820d4d22f4f1cfd0e5a192c0538f"), looks := true }, kinds := [], alts := [], laidByText := true, laidKinds := [.data, .pinned], laidTests := true, laidLooks := .later }
def ArrSpellsUptoCardSaid : Prop := Claim7.holds Tryd.pinned (.plain (OpenSpec.upto arrSpellsSpec)) arrSpellsUptoCard

/-- THE SECOND FORM's CARD OF 'ravelinlaw4.ReachNear'. -/
def reachNearUptoCard : Claim7 := { stood := { row := reachNearUptoRow, standIns := [], harness := (true, "120863713d46287aa79839086b66558350ab820d4d22f4f1cfd0e5a192c0538f"), looks := true }, kinds := [], alts := [], laidByText := true, laidKinds := [.data], laidTests := true, laidLooks := .later }
def ReachNearUptoCardSaid : Prop := Claim7.holds Tryd.pinned (.plain (OpenSpec.upto reachNearSpec)) reachNearUptoCard

/-- THE SECOND FORM's CARD OF 'ravelinlaw1.ArrTexts'. -/
def arrTextsUptoCard : Claim7 := { stood := { row := arrTextsUptoRow, standIns := [], harness := (true, "120863713d46287aa79839086b66558350ab820d4d22f4f1cfd0e5a192c0538f"), looks := true }, kinds := [], alts := [], laidByText := true, laidKinds := [.data, .handle, .pinned], laidTests := true, laidLooks := .later }
def ArrTextsUptoCardSaid : Prop := Claim7.holds Tryd.pinned (.plain (OpenSpec.upto arrTextsSpec)) arrTextsUptoCard

/-- THE SECOND FORM's CARD OF 'ravelinlaw1.ArrShapes'. -/
def arrShapesUptoCard : Claim7 := { stood := { row := arrShapesUptoRow, standIns := [], harness := (true, "120863713d46287aa79839086b66558350ab820d4d22f4f1cfd0e5a192c0538f"), looks := true }, kinds := [], alts := [], laidByText := true, laidKinds := [.handle], laidTests := true, laidLooks := .later }
def ArrShapesUptoCardSaid : Prop := Claim7.holds Tryd.pinned (.plain (OpenSpec.upto arrShapesSpec)) arrShapesUptoCard

/-- THE SECOND FORM's CARD OF 'ravelinlaw4.ReachOrders'. -/
def reachOrdersUptoCard : Claim7 := { stood := { row := reachOrdersUptoRow, standIns := [], harness := (true, "120863713d46287aa79839086b66558350ab820d4d22f4f1cfd0e5a192c0538f"), looks := true }, kinds := [], alts := [], laidByText := true, laidKinds := [.handle], laidTests := true, laidLooks := .later }
def ReachOrdersUptoCardSaid : Prop := Claim7.holds Tryd.pinned (.plain (OpenSpec.upto reachOrdersSpec)) reachOrdersUptoCard

/-- THE SECOND FORM's CARD OF 'ravelinlaw1.EachOnes'. -/
def eachOnesUptoCard : Claim7 := { stood := { row := eachOnesUptoRow, standIns := [], harness := (true, "120863713d46287aa79839086b66558350ab820d4d22f4f1cfd0e5a192c0538f"), looks := true }, kinds := [], alts := [], laidByText := true, laidKinds := [.handle], laidTests := true, laidLooks := .later }
def EachOnesUptoCardSaid : Prop := Claim7.holds Tryd.pinned (.plain (OpenSpec.upto eachOnesSpec)) eachOnesUptoCard

/-- THE SECOND FORM's CARD OF 'ravelinlaw4.ReachFars'. -/
def reachFarsUptoCard : Claim7 := { stood := { row := reachFarsUptoRow, standIns := [], harness := (true, "120863713d46287aa79839086b66558350ab820d4d22f4f1cfd0e5a192c0538f"), looks := true }, kinds := [], alts := [], laidByText := true, laidKinds := [.data, .handle], laidTests := true, laidLooks := .later }
def ReachFarsUptoCardSaid : Prop := Claim7.holds Tryd.pinned (.plain (OpenSpec.upto reachFarsSpec)) reachFarsUptoCard

/-- THE SECOND FORM's CARD OF 'ravelinlaw4.MatrixPowers'. -/
def matrixPowersUptoCard : Claim7 := { stood := { row := matrixPowersUptoRow, standIns := [], harness := (true, "120863713d46287aa79839086b66558350ab820d4d22f4f1cfd0e5a192c0538f"), looks := true }, kinds := [], alts := [], laidByText := true, laidKinds := [.handle], laidTests := true, laidLooks := .later }
def MatrixPowersUptoCardSaid : Prop := Claim7.holds Tryd.pinned (.plain (OpenSpec.upto matrixPowersSpec)) matrixPowersUptoCard

/-- THE SECOND FORM's CARD OF 'ravelinlaw4.ReachCloses'. -/
def reachClosesUptoCard : Claim7 := { stood := { row := reachClosesUptoRow, standIns := [], harness := (true, "120863713d46287aa79839086b66558350ab820d4d22f4f1cfd0e5a192c0538f"), looks := true }, kinds := [], alts := [], laidByText := true, laidKinds := [.handle], laidTests := true, laidLooks := .later }
def ReachClosesUptoCardSaid : Prop := Claim7.holds Tryd.pinned (.plain (OpenSpec.upto reachClosesSpec)) reachClosesUptoCard

/-- THE SECOND FORM's CARD OF 'ravelinlaw4.ReachAhead'. -/
def reachAheadUptoCard : Claim7 := { stood := { row := reachAheadUptoRow, standIns := [], harness := (true, "120863713d46287aa79839086b66558350ab820d4d22f4f1cfd0e5a192c0538f"), looks := true }, kinds := [], alts := [], laidByText := true, laidKinds := [.handle], laidTests := true, laidLooks := .later }
def ReachAheadUptoCardSaid : Prop := Claim7.holds Tryd.pinned (.plain (OpenSpec.upto reachAheadSpec)) reachAheadUptoCard

/-- THE SECOND FORM's CARD OF 'ravelinlaw4.MatrixDets'. -/
def matrixDetsUptoCard : Claim7 := { stood := { row := matrixDetsUptoRow, standIns := [], harness := (true, "120863713d46287aa79839086b66558350ab820d4d22f4f1cfd0e5a192c0538f"), looks := true }, kinds := [], alts := [], laidByText := true, laidKinds := [.handle], laidTests := true, laidLooks := .later }
def MatrixDetsUptoCardSaid : Prop := Claim7.holds Tryd.pinned (.plain (OpenSpec.upto matrixDetsSpec)) matrixDetsUptoCard

/-- THE SECOND FORM's CARD OF 'ravelinlaw4.MatrixAdjugates'. -/
def matrixAdjugatesUptoCard : Claim7 := { stood := { row := matrixAdjugatesUptoRow, standIns := [], harness := (true, "120863713d46287aa79839086b66558350ab820d4d22f4f1cfd0e5a192c0538f"), looks := true }, kinds := [], alts := [], laidByText := true, laidKinds := [.handle], laidTests := true, laidLooks := .later }
def MatrixAdjugatesUptoCardSaid : Prop := Claim7.holds Tryd.pinned (.plain (OpenSpec.upto matrixAdjugatesSpec)) matrixAdjugatesUptoCard

/-- THE SECOND FORM's CARD OF 'ravelinlaw4.MatrixInverses'. -/
def matrixInversesUptoCard : Claim7 := { stood := { row := matrixInversesUptoRow, standIns := [], harness := (true, "120863713d46287aa79839086b66558350ab820d4d22f4f1cfd0e5a192c0538f"), looks := true }, kinds := [], alts := [], laidByText := true, laidKinds := [.handle], laidTests := true, laidLooks := .later }
def MatrixInversesUptoCardSaid : Prop := Claim7.holds Tryd.pinned (.plain (OpenSpec.upto matrixInversesSpec)) matrixInversesUptoCard

/-- THE SECOND FORM's CARD OF 'ravelinlaw1.EachTwos'. -/
def eachTwosUptoCard : Claim7 := { stood := { row := eachTwosUptoRow, standIns := [], harness := (true, "120863713d46287aa79839086b66558350ab820d4d22f4f1cfd0e5a192c0538f"), looks := true }, kinds := [], alts := [], laidByText := true, laidKinds := [.handle], laidTests := true, laidLooks := .later }
def EachTwosUptoCardSaid : Prop := Claim7.holds Tryd.pinned (.plain (OpenSpec.upto eachTwosSpec)) eachTwosUptoCard

/-- THE SECOND FORM's CARD OF 'ravelinlaw4.ProdOuters'. -/
def prodOutersUptoCard : Claim7 := { stood := { row := prodOutersUptoRow, standIns := [], harness := (true, "120863713d46287aa79839086b66558350ab820d4d22f4f1cfd0e5a192c0538f"), looks := true }, kinds := [], alts := [], laidByText := true, laidKinds := [.handle], laidTests := true, laidLooks := .later }
def ProdOutersUptoCardSaid : Prop := Claim7.holds Tryd.pinned (.plain (OpenSpec.upto prodOutersSpec)) prodOutersUptoCard

/-- THE SECOND FORM's CARD OF 'ravelinlaw4.ProdInners'. -/
def prodInnersUptoCard : Claim7 := { stood := { row := prodInnersUptoRow, standIns := [], harness := (true, "120863713d46287aa79839086b66558350ab820d4d22f4f1cfd0e5a192c0538f"), looks := true }, kinds := [], alts := [], laidByText := true, laidKinds := [.handle], laidTests := true, laidLooks := .later }
def ProdInnersUptoCardSaid : Prop := Claim7.holds Tryd.pinned (.plain (OpenSpec.upto prodInnersSpec)) prodInnersUptoCard

/-- THE SECOND FORM's CARD OF 'ravelinlaw4.MatrixBack'. -/
def matrixBackUptoCard : Claim7 := { stood := { row := matrixBackUptoRow, standIns := [], harness := (true, "120863713d46287aa79839086b66558350ab820d4d22f4f1cfd0e5a192c0538f"), looks := true }, kinds := [], alts := [], laidByText := true, laidKinds := [.handle], laidTests := true, laidLooks := .later }
def MatrixBackUptoCardSaid : Prop := Claim7.holds Tryd.pinned (.plain (OpenSpec.upto matrixBackSpec)) matrixBackUptoCard
end Rows
end Go.Proofs.YtiebknfmmanbiaaDoor
