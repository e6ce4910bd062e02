/-
  NARROWER THAN 'FOR EVERY INPUT', by the rows' own cells (each row's printed sentence says how): ArrSpells: laid · ArrIotas: laid · ArrTexts: laid · ArrChecks: laid · ArrShapes: laid · EachOnes: laid · EachTwos: laid.
  DERIVED. THE GIVEN ROWS OF THIS SEAT. 7 by the template 'for every input the law returns true; each argument reads behind the call as it read before'; 0 by the template 'total and deterministic' (their statements: YtbhbmkkpbceebaaDoorTotals.lean).
  GIVEN WITH THE SEED: the statements are not yours to turn. If you find one false, say at which input.
  Laid BY PROGRAM, IN A SANDBOX (cutbox-rows.mjs): the forced cells as the released guide's own fill.sh prints them over the translation 4b47ad57f5208538… (all of the seat's roots in one cut). By AI agents, Wed Nov 11 2026. No macro, syntax, notation, axiom, sorry.
-/
import Derived.Test.YtbhbmkkpbceebaaDoorChecked
import GoSem.PinnedTables
import GoSem.Claim
import GoSem.ClaimJoined
import GoSem.ClaimMapViews
import Derived.JoinedTies
import Derived.KernelRfl
namespace Go.Proofs.YtbhbmkkpbceebaaDoor
/- THE CELL 'sum', in the pinned program and in every row, IS THE sha256 OF THE DUMP (.gsa) THAT YtbhbmkkpbceebaaDoorProg.lean LOADS. Nothing in Lean hashes anything: it is a label: what it is worth is what the hold of that sum in a sandbox is worth. -/
noncomputable def Tryd.pinned : Pinned := { name := "ytbhbmkkpbceebaadoor", sum := "4b47ad57f5208538dcc647c39a6fe8138820c253e058c8d3e4770ef33a587d2f", checked := Tryd.checked }
namespace Rows
def none {H : Type} : Left H := { results := [], args := [] }

/- WHAT THE LISTED PACKAGE-LEVEL VARIABLES READ AS WHEN THE CALL BEGINS. Each datum BY PROGRAM (the guide's laid-datum.mjs) off the statement by which the dump's own 'gosem.cut.vars' lays the variable. In a bare row this is a premise. The card (YtbhbmkkpbceebaaDoorCards.lean) ties it to the program's text. -/
def laid_unicode_utf8_acceptRanges {H : Type} : DataW H := .agg [.agg [.lit (.int .u8 128), .lit (.int .u8 191)], .agg [.lit (.int .u8 160), .lit (.int .u8 191)], .agg [.lit (.int .u8 128), .lit (.int .u8 159)], .agg [.lit (.int .u8 144), .lit (.int .u8 191)], .agg [.lit (.int .u8 128), .lit (.int .u8 143)], .agg [.lit (.int .u8 0), .lit (.int .u8 0)], .agg [.lit (.int .u8 0), .lit (.int .u8 0)], .agg [.lit (.int .u8 0), .lit (.int .u8 0)], .agg [.lit (.int .u8 0), .lit (.int .u8 0)], .agg [.lit (.int .u8 0), .lit (.int .u8 0)], .agg [.lit (.int .u8 0), .lit (.int .u8 0)], .agg [.lit (.int .u8 0), .lit (.int .u8 0)], .agg [.lit (.int .u8 0), .lit (.int .u8 0)], .agg [.lit (.int .u8 0), .lit (.int .u8 0)], .agg [.lit (.int .u8 0), .lit (.int .u8 0)], .agg [.lit (.int .u8 0), .lit (.int .u8 0)]]
/-- One of Go's own tables, pinned by name: the form's constant. -/
def laid_unicode_utf8_first : DataW Unit := Go.Pinned.utf8First
def laid_errors_errorType {H : Type} : DataW H := .iface "internal/reflectlite.rtype" (.agg [.ptr (.lit (.string [101, 114, 114, 111, 114]))])

/-- 'ravelinlaw1.ArrSpells': WHATEVER THE INPUT: true; the input reads as it did. -/
def arrSpellsSpec : ChangeSpec := { name := "arrSpells", fn := fun _ => fun
  | [d1, d2] => { results := [.lit (.bool true)], args := [d1, d2] }
  | _ => none }
def arrSpellsRow : OpenClaim := { program := "ytbhbmkkpbceebaadoor", sum := "4b47ad57f5208538dcc647c39a6fe8138820c253e058c8d3e4770ef33a587d2f", func := "ravelin/ravelinlaw1.ArrSpells", spec := "arrSpells", named := ["unicode/utf8.first", "unicode/utf8.acceptRanges"], apart := false, laid := [("unicode/utf8.acceptRanges", laid_unicode_utf8_acceptRanges), ("unicode/utf8.first", laid_unicode_utf8_first)] }
def ArrSpellsSaid : Prop := arrSpellsRow.holds Tryd.pinned (OpenSpec.ofChange arrSpellsSpec)

/-- ITS FALSE NEIGHBOUR: 'it returns false'. Refute it at one input. -/
def arrSpellsWrong : ChangeSpec := { name := "arrSpells", fn := fun _ => fun
  | [d1, d2] => { results := [.lit (.bool false)], args := [d1, d2] }
  | _ => none }
def ArrSpellsWrongFalsely : Prop := arrSpellsRow.holds Tryd.pinned (OpenSpec.ofChange arrSpellsWrong)

/-- 'ravelinlaw1.ArrIotas': WHATEVER THE INPUT: true; the input reads as it did. -/
def arrIotasSpec : ChangeSpec := { name := "arrIotas", fn := fun _ => fun
  | [d] => { results := [.lit (.bool true)], args := [d] }
  | _ => none }
def arrIotasRow : OpenClaim := { program := "ytbhbmkkpbceebaadoor", sum := "4b47ad57f5208538dcc647c39a6fe8138820c253e058c8d3e4770ef33a587d2f", func := "ravelin/ravelinlaw1.ArrIotas", spec := "arrIotas", inPlace := ["internal/reflectlite.ValueOf", "(internal/reflectlite.Value).Type", "(internal/reflectlite.Value).IsNil", "internal/reflectlite.TypeOf", "(internal/reflectlite.Value).Elem", "(internal/reflectlite.Value).Set"], unfollowed := true, recurses := true, named := ["errors.errorType"], apart := false, laid := [("errors.errorType", laid_errors_errorType)] }
def ArrIotasSaid : Prop := arrIotasRow.holds Tryd.pinned (OpenSpec.ofChange arrIotasSpec)

/-- ITS FALSE NEIGHBOUR: 'it returns false'. Refute it at one input. -/
def arrIotasWrong : ChangeSpec := { name := "arrIotas", fn := fun _ => fun
  | [d] => { results := [.lit (.bool false)], args := [d] }
  | _ => none }
def ArrIotasWrongFalsely : Prop := arrIotasRow.holds Tryd.pinned (OpenSpec.ofChange arrIotasWrong)

/-- 'ravelinlaw1.ArrTexts': WHATEVER THE INPUT: true; the input reads as it did. -/
def arrTextsSpec : ChangeSpec := { name := "arrTexts", fn := fun _ => fun
  | [d] => { results := [.lit (.bool true)], args := [d] }
  | _ => none }
def arrTextsRow : OpenClaim := { program := "ytbhbmkkpbceebaadoor", sum := "4b47ad57f5208538dcc647c39a6fe8138820c253e058c8d3e4770ef33a587d2f", func := "ravelin/ravelinlaw1.ArrTexts", spec := "arrTexts", inPlace := ["internal/reflectlite.ValueOf", "(internal/reflectlite.Value).Type", "(internal/reflectlite.Value).IsNil", "internal/reflectlite.TypeOf", "(internal/reflectlite.Value).Elem", "(internal/reflectlite.Value).Set"], unfollowed := true, recurses := true, named := ["unicode/utf8.first", "unicode/utf8.acceptRanges", "errors.errorType"], apart := false, laid := [("unicode/utf8.acceptRanges", laid_unicode_utf8_acceptRanges), ("errors.errorType", laid_errors_errorType), ("unicode/utf8.first", laid_unicode_utf8_first)] }
def ArrTextsSaid : Prop := arrTextsRow.holds Tryd.pinned (OpenSpec.ofChange arrTextsSpec)

/-- ITS FALSE NEIGHBOUR: 'it returns false'. Refute it at one input. -/
def arrTextsWrong : ChangeSpec := { name := "arrTexts", fn := fun _ => fun
  | [d] => { results := [.lit (.bool false)], args := [d] }
  | _ => none }
def ArrTextsWrongFalsely : Prop := arrTextsRow.holds Tryd.pinned (OpenSpec.ofChange arrTextsWrong)

/-- 'ravelinlaw1.ArrChecks': WHATEVER THE INPUT: true; the input reads as it did. -/
def arrChecksSpec : ChangeSpec := { name := "arrChecks", fn := fun _ => fun
  | [d1, d2] => { results := [.lit (.bool true)], args := [d1, d2] }
  | _ => none }
def arrChecksRow : OpenClaim := { program := "ytbhbmkkpbceebaadoor", sum := "4b47ad57f5208538dcc647c39a6fe8138820c253e058c8d3e4770ef33a587d2f", func := "ravelin/ravelinlaw1.ArrChecks", spec := "arrChecks", inPlace := ["internal/reflectlite.ValueOf", "(internal/reflectlite.Value).Type", "(internal/reflectlite.Value).IsNil", "internal/reflectlite.TypeOf", "(internal/reflectlite.Value).Elem", "(internal/reflectlite.Value).Set"], unfollowed := true, recurses := true, named := ["errors.errorType"], apart := false, laid := [("errors.errorType", laid_errors_errorType)] }
def ArrChecksSaid : Prop := arrChecksRow.holds Tryd.pinned (OpenSpec.ofChange arrChecksSpec)

/-- ITS FALSE NEIGHBOUR: 'it returns false'. Refute it at one input. -/
def arrChecksWrong : ChangeSpec := { name := "arrChecks", fn := fun _ => fun
  | [d1, d2] => { results := [.lit (.bool false)], args := [d1, d2] }
  | _ => none }
def ArrChecksWrongFalsely : Prop := arrChecksRow.holds Tryd.pinned (OpenSpec.ofChange arrChecksWrong)

/-- 'ravelinlaw1.ArrShapes': WHATEVER THE INPUT: true; the input reads as it did. -/
def arrShapesSpec : ChangeSpec := { name := "arrShapes", fn := fun _ => fun
  | [d1, d2] => { results := [.lit (.bool true)], args := [d1, d2] }
  | _ => none }
def arrShapesRow : OpenClaim := { program := "ytbhbmkkpbceebaadoor", sum := "4b47ad57f5208538dcc647c39a6fe8138820c253e058c8d3e4770ef33a587d2f", func := "ravelin/ravelinlaw1.ArrShapes", spec := "arrShapes", inPlace := ["internal/reflectlite.ValueOf", "(internal/reflectlite.Value).Type", "(internal/reflectlite.Value).IsNil", "internal/reflectlite.TypeOf", "(internal/reflectlite.Value).Elem", "(internal/reflectlite.Value).Set"], unfollowed := true, recurses := true, named := ["errors.errorType"], apart := false, laid := [("errors.errorType", laid_errors_errorType)] }
def ArrShapesSaid : Prop := arrShapesRow.holds Tryd.pinned (OpenSpec.ofChange arrShapesSpec)

/-- ITS FALSE NEIGHBOUR: 'it returns false'. Refute it at one input. -/
def arrShapesWrong : ChangeSpec := { name := "arrShapes", fn := fun _ => fun
  | [d1, d2] => { results := [.lit (.bool false)], args := [d1, d2] }
  | _ => none }
def ArrShapesWrongFalsely : Prop := arrShapesRow.holds Tryd.pinned (OpenSpec.ofChange arrShapesWrong)

/-- 'ravelinlaw1.EachOnes': WHATEVER THE INPUT: true; the input reads as it did. -/
def eachOnesSpec : ChangeSpec := { name := "eachOnes", fn := fun _ => fun
  | [d1, d2] => { results := [.lit (.bool true)], args := [d1, d2] }
  | _ => none }
def eachOnesRow : OpenClaim := { program := "ytbhbmkkpbceebaadoor", sum := "4b47ad57f5208538dcc647c39a6fe8138820c253e058c8d3e4770ef33a587d2f", func := "ravelin/ravelinlaw1.EachOnes", spec := "eachOnes", inPlace := ["internal/reflectlite.ValueOf", "(internal/reflectlite.Value).Type", "(internal/reflectlite.Value).IsNil", "internal/reflectlite.TypeOf", "(internal/reflectlite.Value).Elem", "(internal/reflectlite.Value).Set"], unfollowed := true, recurses := true, named := ["errors.errorType"], apart := false, laid := [("errors.errorType", laid_errors_errorType)] }
def EachOnesSaid : Prop := eachOnesRow.holds Tryd.pinned (OpenSpec.ofChange eachOnesSpec)

/-- ITS FALSE NEIGHBOUR: 'it returns false'. Refute it at one input. -/
def eachOnesWrong : ChangeSpec := { name := "eachOnes", fn := fun _ => fun
  | [d1, d2] => { results := [.lit (.bool false)], args := [d1, d2] }
  | _ => none }
def EachOnesWrongFalsely : Prop := eachOnesRow.holds Tryd.pinned (OpenSpec.ofChange eachOnesWrong)

/-- 'ravelinlaw1.EachTwos': WHATEVER THE INPUT: true; the input reads as it did. -/
def eachTwosSpec : ChangeSpec := { name := "eachTwos", fn := fun _ => fun
  | [d1, d2, d3] => { results := [.lit (.bool true)], args := [d1, d2, d3] }
  | _ => none }
def eachTwosRow : OpenClaim := { program := "ytbhbmkkpbceebaadoor", sum := "4b47ad57f5208538dcc647c39a6fe8138820c253e058c8d3e4770ef33a587d2f", func := "ravelin/ravelinlaw1.EachTwos", spec := "eachTwos", inPlace := ["internal/reflectlite.ValueOf", "(internal/reflectlite.Value).Type", "(internal/reflectlite.Value).IsNil", "internal/reflectlite.TypeOf", "(internal/reflectlite.Value).Elem", "(internal/reflectlite.Value).Set"], unfollowed := true, recurses := true, named := ["errors.errorType"], apart := false, laid := [("errors.errorType", laid_errors_errorType)] }
def EachTwosSaid : Prop := eachTwosRow.holds Tryd.pinned (OpenSpec.ofChange eachTwosSpec)

/-- ITS FALSE NEIGHBOUR: 'it returns false'. Refute it at one input. -/
def eachTwosWrong : ChangeSpec := { name := "eachTwos", fn := fun _ => fun
  | [d1, d2, d3] => { results := [.lit (.bool false)], args := [d1, d2, d3] }
  | _ => none }
def EachTwosWrongFalsely : Prop := eachTwosRow.holds Tryd.pinned (OpenSpec.ofChange eachTwosWrong)

/- THE SECOND FORM. 'bulk': how many values and letters a reading holds, each counted each time it is reached (what is shared counts as often as it is met; a slice's spare places count too). A statement '..UptoSaid' is the law's where the arguments, and the package variables that the reading takes, are together of bulk at most 1048576: NARROWER than '..Said'. Prove '..Said' where nothing that the law and all that it calls make is longer than what came in: it says more and counts as full. Else prove '..UptoSaid'. A law counts once. -/
mutual
def uptoBulk {H : Type} : DataW H → Nat
  | .lit (.string bytes) => bytes.length + 1
  | .lit _ => 1
  | .nil => 1
  | .ptr d => uptoBulk d + 1
  | .slice elems spare => uptoBulkAll elems + uptoBulkAll spare + 1
  | .agg parts => uptoBulkAll parts + 1
  | .iface _ d => uptoBulk d + 1
  | .map entries => uptoBulkEntries entries + 1
  | .held _ => 1
def uptoBulkAll {H : Type} : List (DataW H) → Nat
  | [] => 0
  | d :: r => uptoBulk d + uptoBulkAll r
def uptoBulkEntries {H : Type} : List (Lit × DataW H) → Nat
  | [] => 0
  | x :: r => uptoBulkEntry x + uptoBulkEntries r
def uptoBulkEntry {H : Type} : Lit × DataW H → Nat
  | (.string bytes, d) => bytes.length + uptoBulk d + 1
  | (_, d) => uptoBulk d + 1
 end
def uptoSmall : (H : Type) → List (DataW H) → Bool := fun _ ds => decide (uptoBulkAll ds ≤ 1048576)
def OpenSpec.upto (s : _root_.Go.ChangeSpec) : _root_.Go.OpenSpec := { _root_.Go.OpenSpec.ofChange s with cond := some uptoSmall }

/-- 'ravelinlaw1.ArrSpells', WHERE WHAT IT READS IS OF BULK AT MOST 1048576: true; the input reads as it did. -/
def arrSpellsUptoRow : OpenClaim := { program := "ytbhbmkkpbceebaadoor", sum := "4b47ad57f5208538dcc647c39a6fe8138820c253e058c8d3e4770ef33a587d2f", func := "ravelin/ravelinlaw1.ArrSpells", spec := "arrSpells", named := ["unicode/utf8.first", "unicode/utf8.acceptRanges"], apart := false, laid := [("unicode/utf8.acceptRanges", laid_unicode_utf8_acceptRanges), ("unicode/utf8.first", laid_unicode_utf8_first)], narrowed := true }
def ArrSpellsUptoSaid : Prop := arrSpellsUptoRow.holds Tryd.pinned (OpenSpec.upto arrSpellsSpec)

/-- 'ravelinlaw1.ArrIotas', WHERE WHAT IT READS IS OF BULK AT MOST 1048576: true; the input reads as it did. -/
def arrIotasUptoRow : OpenClaim := { program := "ytbhbmkkpbceebaadoor", sum := "4b47ad57f5208538dcc647c39a6fe8138820c253e058c8d3e4770ef33a587d2f", func := "ravelin/ravelinlaw1.ArrIotas", spec := "arrIotas", inPlace := ["internal/reflectlite.ValueOf", "(internal/reflectlite.Value).Type", "(internal/reflectlite.Value).IsNil", "internal/reflectlite.TypeOf", "(internal/reflectlite.Value).Elem", "(internal/reflectlite.Value).Set"], unfollowed := true, recurses := true, named := ["errors.errorType"], apart := false, laid := [("errors.errorType", laid_errors_errorType)], narrowed := true }
def ArrIotasUptoSaid : Prop := arrIotasUptoRow.holds Tryd.pinned (OpenSpec.upto arrIotasSpec)

/-- 'ravelinlaw1.ArrTexts', WHERE WHAT IT READS IS OF BULK AT MOST 1048576: true; the input reads as it did. -/
def arrTextsUptoRow : OpenClaim := { program := "ytbhbmkkpbceebaadoor", sum := "4b47ad57f5208538dcc647c39a6fe8138820c253e058c8d3e4770ef33a587d2f", func := "ravelin/ravelinlaw1.ArrTexts", spec := "arrTexts", inPlace := ["internal/reflectlite.ValueOf", "(internal/reflectlite.Value).Type", "(internal/reflectlite.Value).IsNil", "internal/reflectlite.TypeOf", "(internal/reflectlite.Value).Elem", "(internal/reflectlite.Value).Set"], unfollowed := true, recurses := true, named := ["unicode/utf8.first", "unicode/utf8.acceptRanges", "errors.errorType"], apart := false, laid := [("unicode/utf8.acceptRanges", laid_unicode_utf8_acceptRanges), ("errors.errorType", laid_errors_errorType), ("unicode/utf8.first", laid_unicode_utf8_first)], narrowed := true }
def ArrTextsUptoSaid : Prop := arrTextsUptoRow.holds Tryd.pinned (OpenSpec.upto arrTextsSpec)

/-- 'ravelinlaw1.ArrChecks', WHERE WHAT IT READS IS OF BULK AT MOST 1048576: true; the input reads as it did. -/
def arrChecksUptoRow : OpenClaim := { program := "ytbhbmkkpbceebaadoor", sum := "4b47ad57f5208538dcc647c39a6fe8138820c253e058c8d3e4770ef33a587d2f", func := "ravelin/ravelinlaw1.ArrChecks", spec := "arrChecks", inPlace := ["internal/reflectlite.ValueOf", "(internal/reflectlite.Value).Type", "(internal/reflectlite.Value).IsNil", "internal/reflectlite.TypeOf", "(internal/reflectlite.Value).Elem", "(internal/reflectlite.Value).Set"], unfollowed := true, recurses := true, named := ["errors.errorType"], apart := false, laid := [("errors.errorType", laid_errors_errorType)], narrowed := true }
def ArrChecksUptoSaid : Prop := arrChecksUptoRow.holds Tryd.pinned (OpenSpec.upto arrChecksSpec)

/-- 'ravelinlaw1.ArrShapes', WHERE WHAT IT READS IS OF BULK AT MOST 1048576: true; the input reads as it did. -/
def arrShapesUptoRow : OpenClaim := { program := "ytbhbmkkpbceebaadoor", sum := "4b47ad57f5208538dcc647c39a6fe8138820c253e058c8d3e4770ef33a587d2f", func := "ravelin/ravelinlaw1.ArrShapes", spec := "arrShapes", inPlace := ["internal/reflectlite.ValueOf", "(internal/reflectlite.Value).Type", "(internal/reflectlite.Value).IsNil", "internal/reflectlite.TypeOf", "(internal/reflectlite.Value).Elem", "(internal/reflectlite.Value).Set"], unfollowed := true, recurses := true, named := ["errors.errorType"], apart := false, laid := [("errors.errorType", laid_errors_errorType)], narrowed := true }
def ArrShapesUptoSaid : Prop := arrShapesUptoRow.holds Tryd.pinned (OpenSpec.upto arrShapesSpec)

/-- 'ravelinlaw1.EachOnes', WHERE WHAT IT READS IS OF BULK AT MOST 1048576: true; the input reads as it did. -/
def eachOnesUptoRow : OpenClaim := { program := "ytbhbmkkpbceebaadoor", sum := "4b47ad57f5208538dcc647c39a6fe8138820c253e058c8d3e4770ef33a587d2f", func := "ravelin/ravelinlaw1.EachOnes", spec := "eachOnes", inPlace := ["internal/reflectlite.ValueOf", "(internal/reflectlite.Value).Type", "(internal/reflectlite.Value).IsNil", "internal/reflectlite.TypeOf", "(internal/reflectlite.Value).Elem", "(internal/reflectlite.Value).Set"], unfollowed := true, recurses := true, named := ["errors.errorType"], apart := false, laid := [("errors.errorType", laid_errors_errorType)], narrowed := true }
def EachOnesUptoSaid : Prop := eachOnesUptoRow.holds Tryd.pinned (OpenSpec.upto eachOnesSpec)

/-- 'ravelinlaw1.EachTwos', WHERE WHAT IT READS IS OF BULK AT MOST 1048576: true; the input reads as it did. -/
def eachTwosUptoRow : OpenClaim := { program := "ytbhbmkkpbceebaadoor", sum := "4b47ad57f5208538dcc647c39a6fe8138820c253e058c8d3e4770ef33a587d2f", func := "ravelin/ravelinlaw1.EachTwos", spec := "eachTwos", inPlace := ["internal/reflectlite.ValueOf", "(internal/reflectlite.Value).Type", "(internal/reflectlite.Value).IsNil", "internal/reflectlite.TypeOf", "(internal/reflectlite.Value).Elem", "(internal/reflectlite.Value).Set"], unfollowed := true, recurses := true, named := ["errors.errorType"], apart := false, laid := [("errors.errorType", laid_errors_errorType)], narrowed := true }
def EachTwosUptoSaid : Prop := eachTwosUptoRow.holds Tryd.pinned (OpenSpec.upto eachTwosSpec)

end Rows
end Go.Proofs.YtbhbmkkpbceebaaDoor
