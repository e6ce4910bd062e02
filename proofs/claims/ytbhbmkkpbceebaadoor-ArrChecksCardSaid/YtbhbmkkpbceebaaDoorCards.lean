/-
  DERIVED. GIVEN WITH THE SEED: THE CARDS: each row of YtbhbmkkpbceebaaDoorRows.lean that lists a variable, with what it lists TIED to the program's text (the seventh form; the later family's looks); each row that meets fmt, with fmt's text TOLD by the authors' own Lean function (tested against real Go, not proved from fmt's source: count such statements apart). THE CARD IS WHAT COUNTS. Prove the row's statement (the work); the ties are given (YtbhbmkkpbceebaaDoorTie.lean); close each card by the builder's one call (the guide's Derived/Test/ToyasCard.lean, 'card_holds'). Laid BY PROGRAM, IN A SANDBOX (cutbox-door.mjs). By AI agents, Wed Nov 11 2026. No macro, syntax, notation, axiom, sorry.
-/
import Derived.Test.YtbhbmkkpbceebaaDoorRows
import GoSem.ClaimSeven
namespace Go.Proofs.YtbhbmkkpbceebaaDoor
namespace Rows

/-- THE TIED CARD OF 'ravelinlaw1.ArrSpells'. -/
def arrSpellsCard : Claim7 := { stood := { row := arrSpellsRow, standIns := [], harness := (true, "b3a59a61b2d259bf82ae78037f682d92892cd68ea34a9532513cabdd4e21ced2"), looks := true }, kinds := [], alts := [], laidByText := true, laidKinds := [.data, .pinned], laidTests := true, laidLooks := .later }
def ArrSpellsCardSaid : Prop := Claim7.holds Tryd.pinned (.plain (OpenSpec.ofChange arrSpellsSpec)) arrSpellsCard

/-- THE TIED CARD OF 'ravelinlaw1.ArrIotas'. -/
def arrIotasCard : Claim7 := { stood := { row := arrIotasRow, standIns := [], harness := (true, "b3a59a61b2d259bf82ae78037f682d92892cd68ea34a9532513cabdd4e21ced2"), looks := true }, kinds := [], alts := [], laidByText := true, laidKinds := [.handle], laidTests := true, laidLooks := .later }
def ArrIotasCardSaid : Prop := Claim7.holds Tryd.pinned (.plain (OpenSpec.ofChange arrIotasSpec)) arrIotasCard

/-- THE TIED CARD OF 'ravelinlaw1.ArrTexts'. -/
def arrTextsCard : Claim7 := { stood := { row := arrTextsRow, standIns := [], harness := (true, "b3a59a61b2d259bf82ae78037f682d92892cd68ea34a9532513cabdd4e21ced2"), looks := true }, kinds := [], alts := [], laidByText := true, laidKinds := [.data, .handle, .pinned], laidTests := true, laidLooks := .later }
def ArrTextsCardSaid : Prop := Claim7.holds Tryd.pinned (.plain (OpenSpec.ofChange arrTextsSpec)) arrTextsCard

/-- THE TIED CARD OF 'ravelinlaw1.ArrChecks'. -/
def arrChecksCard : Claim7 := { stood := { row := arrChecksRow, standIns := [], harness := (true, "b3a59a61b2d259bf82ae78037f682d92892cd68ea34a9532513cabdd4e21ced2"), looks := true }, kinds := [], alts := [], laidByText := true, laidKinds := [.handle], laidTests := true, laidLooks := .later }
def ArrChecksCardSaid : Prop := Claim7.holds Tryd.pinned (.plain (OpenSpec.ofChange arrChecksSpec)) arrChecksCard

/-- THE TIED CARD OF 'ravelinlaw1.ArrShapes'. -/
def arrShapesCard : Claim7 := { stood := { row := arrShapesRow, standIns := [], harness := (true, "b3a59a61b2d259bf82ae78037f682d92892cd68ea34a9532513cabdd4e21ced2"), looks := true }, kinds := [], alts := [], laidByText := true, laidKinds := [.handle], laidTests := true, laidLooks := .later }
def ArrShapesCardSaid : Prop := Claim7.holds Tryd.pinned (.plain (OpenSpec.ofChange arrShapesSpec)) arrShapesCard

/-- THE TIED CARD OF 'ravelinlaw1.EachOnes'. -/
def eachOnesCard : Claim7 := { stood := { row := eachOnesRow, standIns := [], harness := (true, "b3a59a61b2d259bf82ae78037f682d92892cd68ea34a9532513cabdd4e21ced2"), looks := true }, kinds := [], alts := [], laidByText := true, laidKinds := [.handle], laidTests := true, laidLooks := .later }
def EachOnesCardSaid : Prop := Claim7.holds Tryd.pinned (.plain (OpenSpec.ofChange eachOnesSpec)) eachOnesCard

/-- THE TIED CARD OF 'ravelinlaw1.EachTwos'. -/
def eachTwosCard : Claim7 := { stood := { row := eachTwosRow, standIns := [], harness := (true, "b3a59a61b2d259bf82ae78037f682d92892cd68ea34a9532513cabdd4e21ced2"), looks := true }, kinds := [], alts := [], laidByText := true, laidKinds := [.handle], laidTests := true, laidLooks := .later }
def EachTwosCardSaid : Prop := Claim7.holds Tryd.pinned (.plain (OpenSpec.ofChange eachTwosSpec)) eachTwosCard

/-- THE SECOND FORM's CARD OF 'ravelinlaw1.ArrSpells'. -/
def arrSpellsUptoCard : Claim7 := { stood := { row := arrSpellsUptoRow, standIns := [], harness := (true, "b3a59a61b2d259bf82ae78037f682d92892cd68ea34a9532513cabdd4e21ced2"), looks := true }, kinds := [], alts := [], laidByText := true, laidKinds := [.data, .pinned], laidTests := true, laidLooks := .later }
def ArrSpellsUptoCardSaid : Prop := Claim7.holds Tryd.pinned (.plain (OpenSpec.upto arrSpellsSpec)) arrSpellsUptoCard

/-- THE SECOND FORM's CARD OF 'ravelinlaw1.ArrIotas'. -/
def arrIotasUptoCard : Claim7 := { stood := { row := arrIotasUptoRow, standIns := [], harness := (true, "b3a59a61b2d259bf82ae78037f682d92892cd68ea34a9532513cabdd4e21ced2"), looks := true }, kinds := [], alts := [], laidByText := true, laidKinds := [.handle], laidTests := true, laidLooks := .later }
def ArrIotasUptoCardSaid : Prop := Claim7.holds Tryd.pinned (.plain (OpenSpec.upto arrIotasSpec)) arrIotasUptoCard

/-- THE SECOND FORM's CARD OF 'ravelinlaw1.ArrTexts'. -/
def arrTextsUptoCard : Claim7 := { stood := { row := arrTextsUptoRow, standIns := [], harness := (true, "b3a59a61b2d259bf82ae78037f682d92892cd68ea34a9532513cabdd4e21ced2"), looks := true }, kinds := [], alts := [], laidByText := true, laidKinds := [.data, .handle, .pinned], laidTests := true, laidLooks := .later }
def ArrTextsUptoCardSaid : Prop := Claim7.holds Tryd.pinned (.plain (OpenSpec.upto arrTextsSpec)) arrTextsUptoCard

/-- THE SECOND FORM's CARD OF 'ravelinlaw1.ArrChecks'. -/
def arrChecksUptoCard : Claim7 := { stood := { row := arrChecksUptoRow, standIns := [], harness := (true, "b3a59a61b2d259bf82ae78037f682d92892cd68ea34a9532513cabdd4e21ced2"), looks := true }, kinds := [], alts := [], laidByText := true, laidKinds := [.handle], laidTests := true, laidLooks := .later }
def ArrChecksUptoCardSaid : Prop := Claim7.holds Tryd.pinned (.plain (OpenSpec.upto arrChecksSpec)) arrChecksUptoCard

/-- THE SECOND FORM's CARD OF 'ravelinlaw1.ArrShapes'. -/
def arrShapesUptoCard : Claim7 := { stood := { row := arrShapesUptoRow, standIns := [], harness := (true, "b3a59a61b2d259bf82ae78037f682d92892cd68ea34a9532513cabdd4e21ced2"), looks := true }, kinds := [], alts := [], laidByText := true, laidKinds := [.handle], laidTests := true, laidLooks := .later }
def ArrShapesUptoCardSaid : Prop := Claim7.holds Tryd.pinned (.plain (OpenSpec.upto arrShapesSpec)) arrShapesUptoCard

/-- THE SECOND FORM's CARD OF 'ravelinlaw1.EachOnes'. -/
def eachOnesUptoCard : Claim7 := { stood := { row := eachOnesUptoRow, standIns := [], harness := (true, "b3a59a61b2d259bf82ae78037f682d92892cd68ea34a9532513cabdd4e21ced2"), looks := true }, kinds := [], alts := [], laidByText := true, laidKinds := [.handle], laidTests := true, laidLooks := .later }
def EachOnesUptoCardSaid : Prop := Claim7.holds Tryd.pinned (.plain (OpenSpec.upto eachOnesSpec)) eachOnesUptoCard

/-- THE SECOND FORM's CARD OF 'ravelinlaw1.EachTwos'. -/
def eachTwosUptoCard : Claim7 := { stood := { row := eachTwosUptoRow, standIns := [], harness := (true, "b3a59a61b2d259bf82ae78037f682d92892cd68ea34a9532513cabdd4e21ced2"), looks := true }, kinds := [], alts := [], laidByText := true, laidKinds := [.handle], laidTests := true, laidLooks := .later }
def EachTwosUptoCardSaid : Prop := Claim7.holds Tryd.pinned (.plain (OpenSpec.upto eachTwosSpec)) eachTwosUptoCard
end Rows
end Go.Proofs.YtbhbmkkpbceebaaDoor
