/-
  DERIVED. GIVEN WITH THE SEED: THE CARDS: each row of YtaplaoelamnoiaaGreatDoorRows.lean that lists a variable, with what it lists TIED to the program's text (the seventh form; the later family's looks); each row that meets fmt, with fmt's text TOLD by the authors' own Lean function (tested against real Go, not proved from fmt's source: count such statements apart). THE CARD IS WHAT COUNTS. Prove the row's statement (the work); the ties are given (YtaplaoelamnoiaaGreatDoorTie.lean); close each card by the builder's one call (the guide's Derived/Test/ToyasCard.lean, 'card_holds'). Laid BY PROGRAM, IN A SANDBOX (cutbox-door.mjs). By AI agents, Wed Nov 11 2026. No macro, syntax, notation, axiom, sorry.
-/
import Derived.Test.YtaplaoelamnoiaaGreatDoorRows
import GoSem.ClaimSeven
namespace Go.Proofs.YtaplaoelamnoiaaGreatDoor
namespace Rows

/-- THE TIED CARD OF 'ravelintop.TopMorgan'. -/
def topMorganCard : Claim7 := { stood := { row := topMorganRow, standIns := [], harness := (true, "1c89c8de1ea77e5768ddac40aab8f0ec28e7b360f2ed6ecd2f81018610afed4b"), looks := true }, kinds := [], alts := [], laidByText := true, laidKinds := [.data, .data, .data, .data, .sentinel, .sentinel, .pinned], laidTests := true, laidLooks := .later }
def TopMorganCardSaid : Prop := Claim7.holds Tryz.pinned (.plain (OpenSpec.ofChange topMorganSpec)) topMorganCard

/-- THE TIED CARD OF 'ravelintop.TopSieve'. -/
def topSieveCard : Claim7 := { stood := { row := topSieveRow, standIns := [], harness := (true, "1c89c8de1ea77e5768ddac40aab8f0ec28e7b360f2ed6ecd2f81018610afed4b"), looks := true }, kinds := [], alts := [], laidByText := true, laidKinds := [.data, .data, .data, .data, .sentinel, .sentinel, .pinned], laidTests := true, laidLooks := .later }
def TopSieveCardSaid : Prop := Claim7.holds Tryz.pinned (.plain (OpenSpec.ofChange topSieveSpec)) topSieveCard

/-- THE TIED CARD OF 'ravelintop.TopSchool'. -/
def topSchoolCard : Claim7 := { stood := { row := topSchoolRow, standIns := [], harness := (true, "1c89c8de1ea77e5768ddac40aab8f0ec28e7b360f2ed6ecd2f81018610afed4b"), looks := true }, kinds := [], alts := [], laidByText := true, laidKinds := [.data, .data, .data, .data, .sentinel, .sentinel, .pinned], laidTests := true, laidLooks := .later }
def TopSchoolCardSaid : Prop := Claim7.holds Tryz.pinned (.plain (OpenSpec.ofChange topSchoolSpec)) topSchoolCard

/-- THE TIED CARD OF 'ravelintop.TopGreatest'. -/
def topGreatestCard : Claim7 := { stood := { row := topGreatestRow, standIns := [], harness := (true, "1c89c8de1ea77e5768ddac40aab8f0ec28e7b360f2ed6ecd2f81018610afed4b"), looks := true }, kinds := [], alts := [], laidByText := true, laidKinds := [.data, .data, .data, .data, .sentinel, .sentinel, .pinned], laidTests := true, laidLooks := .later }
def TopGreatestCardSaid : Prop := Claim7.holds Tryz.pinned (.plain (OpenSpec.ofChange topGreatestSpec)) topGreatestCard

/-- THE SECOND FORM's CARD OF 'ravelintop.TopMorgan'. -/
def topMorganUptoCard : Claim7 := { stood := { row := topMorganUptoRow, standIns := [], harness := (true, "1c89c8de1ea77e5768ddac40aab8f0ec28e7b360f2ed6ecd2f81018610afed4b"), looks := true }, kinds := [], alts := [], laidByText := true, laidKinds := [.data, .data, .data, .data, .sentinel, .sentinel, .pinned], laidTests := true, laidLooks := .later }
def TopMorganUptoCardSaid : Prop := Claim7.holds Tryz.pinned (.plain (OpenSpec.upto topMorganSpec)) topMorganUptoCard

/-- THE SECOND FORM's CARD OF 'ravelintop.TopSieve'. -/
def topSieveUptoCard : Claim7 := { stood := { row := topSieveUptoRow, standIns := [], harness := (true, "1c89c8de1ea77e5768ddac40aab8f0ec28e7b360f2ed6ecd2f81018610afed4b"), looks := true }, kinds := [], alts := [], laidByText := true, laidKinds := [.data, .data, .data, .data, .sentinel, .sentinel, .pinned], laidTests := true, laidLooks := .later }
def TopSieveUptoCardSaid : Prop := Claim7.holds Tryz.pinned (.plain (OpenSpec.upto topSieveSpec)) topSieveUptoCard

/-- THE SECOND FORM's CARD OF 'ravelintop.TopSchool'. -/
def topSchoolUptoCard : Claim7 := { stood := { row := topSchoolUptoRow, standIns := [], harness := (true, "1c89c8de1ea77e5768ddac40aab8f0ec28e7b360f2ed6ecd2f81018610afed4b"), looks := true }, kinds := [], alts := [], laidByText := true, laidKinds := [.data, .data, .data, .data, .sentinel, .sentinel, .pinned], laidTests := true, laidLooks := .later }
def TopSchoolUptoCardSaid : Prop := Claim7.holds Tryz.pinned (.plain (OpenSpec.upto topSchoolSpec)) topSchoolUptoCard

/-- THE SECOND FORM's CARD OF 'ravelintop.TopGreatest'. -/
def topGreatestUptoCard : Claim7 := { stood := { row := topGreatestUptoRow, standIns := [], harness := (true, "1c89c8de1ea77e5768ddac40aab8f0ec28e7b360f2ed6ecd2f81018610afed4b"), looks := true }, kinds := [], alts := [], laidByText := true, laidKinds := [.data, .data, .data, .data, .sentinel, .sentinel, .pinned], laidTests := true, laidLooks := .later }
def TopGreatestUptoCardSaid : Prop := Claim7.holds Tryz.pinned (.plain (OpenSpec.upto topGreatestSpec)) topGreatestUptoCard
end Rows
end Go.Proofs.YtaplaoelamnoiaaGreatDoor
