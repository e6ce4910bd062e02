/-
  NARROWER THAN 'FOR EVERY INPUT', by the rows' own cells (each row's printed sentence says how): ArrSpells: laid · ArrTexts: laid · MatrixPowers: laid · MatrixDets: laid · MatrixAdjugates: laid · MatrixInverses: laid · ProdOuters: laid · ProdInners: laid · MatrixBack: laid.
  DERIVED. THE GIVEN ROWS OF THIS SEAT. 9 by the template 'for every input the law returns true; each argument reads behind the call as it read before'; 0 by the template 'total and deterministic' (their statements: YtcenhemlgapkeaaDoorTotals.lean).
  GIVEN WITH THE SEED: the statements are not yours to turn. If you find one false, say at which input.
  Laid BY PROGRAM, IN A SANDBOX (cutbox-rows.mjs): the forced cells as the released guide's own fill.sh prints them over the translation d6af29cb585359c9… (all of the seat's roots in one cut). By AI agents, Wed Nov 11 2026. No macro, syntax, notation, axiom, sorry.
-/
import Derived.Test.YtcenhemlgapkeaaDoorChecked
import GoSem.PinnedTables
import GoSem.Claim
import GoSem.ClaimJoined
import GoSem.ClaimMapViews
import Derived.JoinedTies
import Derived.KernelRfl
namespace Go.Proofs.YtcenhemlgapkeaaDoor
/- THE CELL 'sum', in the pinned program and in every row, IS THE sha256 OF THE DUMP (.gsa) THAT YtcenhemlgapkeaaDoorProg.lean LOADS. Nothing in Lean hashes anything: it is a label: what it is worth is what the hold of that sum in a sandbox is worth. -/
noncomputable def Tryd.pinned : Pinned := { name := "ytcenhemlgapkeaadoor", sum := "d6af29cb585359c99204ebb2b06c9f3389c6421bcdd40d69533bc8738b0619ba", checked := Tryd.checked }
namespace Rows
def none {H : Type} : Left H := { results := [], args := [] }

/- WHAT THE LISTED PACKAGE-LEVEL VARIABLES READ AS WHEN THE CALL BEGINS. Each datum BY PROGRAM (the guide's laid-datum.mjs) off the statement by which the dump's own 'gosem.cut.vars' lays the variable. In a bare row this is a premise. The card (YtcenhemlgapkeaaDoorCards.lean) ties it to the program's text. -/
def laid_unicode_utf8_acceptRanges {H : Type} : DataW H := .agg [.agg [.lit (.int .u8 128), .lit (.int .u8 191)], .agg [.lit (.int .u8 160), .lit (.int .u8 191)], .agg [.lit (.int .u8 128), .lit (.int .u8 159)], .agg [.lit (.int .u8 144), .lit (.int .u8 191)], .agg [.lit (.int .u8 128), .lit (.int .u8 143)], .agg [.lit (.int .u8 0), .lit (.int .u8 0)], .agg [.lit (.int .u8 0), .lit (.int .u8 0)], .agg [.lit (.int .u8 0), .lit (.int .u8 0)], .agg [.lit (.int .u8 0), .lit (.int .u8 0)], .agg [.lit (.int .u8 0), .lit (.int .u8 0)], .agg [.lit (.int .u8 0), .lit (.int .u8 0)], .agg [.lit (.int .u8 0), .lit (.int .u8 0)], .agg [.lit (.int .u8 0), .lit (.int .u8 0)], .agg [.lit (.int .u8 0), .lit (.int .u8 0)], .agg [.lit (.int .u8 0), .lit (.int .u8 0)], .agg [.lit (.int .u8 0), .lit (.int .u8 0)]]
/-- One of Go's own tables, pinned by name: the form's constant. -/
def laid_unicode_utf8_first : DataW Unit := Go.Pinned.utf8First
def laid_errors_errorType {H : Type} : DataW H := .iface "internal/reflectlite.rtype" (.agg [.ptr (.lit (.string [101, 114, 114, 111, 114]))])

/-- 'ravelinlaw1.ArrSpells': WHATEVER THE INPUT: true; the input reads as it did. -/
def arrSpellsSpec : ChangeSpec := { name := "arrSpells", fn := fun _ => fun
  | [d1, d2] => { results := [.lit (.bool true)], args := [d1, d2] }
  | _ => none }
def arrSpellsRow : OpenClaim := { program := "ytcenhemlgapkeaadoor", sum := "d6af29cb585359c99204ebb2b06c9f3389c6421bcdd40d69533bc8738b0619ba", func := "ravelin/ravelinlaw1.ArrSpells", spec := "arrSpells", named := ["unicode/utf8.first", "unicode/utf8.acceptRanges"], apart := false, laid := [("unicode/utf8.acceptRanges", laid_unicode_utf8_acceptRanges), ("unicode/utf8.first", laid_unicode_utf8_first)] }
def ArrSpellsSaid : Prop := arrSpellsRow.holds Tryd.pinned (OpenSpec.ofChange arrSpellsSpec)

/-- ITS FALSE NEIGHBOUR: 'it returns false'. Refute it at one input. -/
def arrSpellsWrong : ChangeSpec := { name := "arrSpells", fn := fun _ => fun
  | [d1, d2] => { results := [.lit (.bool false)], args := [d1, d2] }
  | _ => none }
def ArrSpellsWrongFalsely : Prop := arrSpellsRow.holds Tryd.pinned (OpenSpec.ofChange arrSpellsWrong)

/-- 'ravelinlaw1.ArrTexts': WHATEVER THE INPUT: true; the input reads as it did. -/
def arrTextsSpec : ChangeSpec := { name := "arrTexts", fn := fun _ => fun
  | [d] => { results := [.lit (.bool true)], args := [d] }
  | _ => none }
def arrTextsRow : OpenClaim := { program := "ytcenhemlgapkeaadoor", sum := "d6af29cb585359c99204ebb2b06c9f3389c6421bcdd40d69533bc8738b0619ba", func := "ravelin/ravelinlaw1.ArrTexts", spec := "arrTexts", inPlace := ["internal/reflectlite.ValueOf", "(internal/reflectlite.Value).Type", "(internal/reflectlite.Value).IsNil", "internal/reflectlite.TypeOf", "(internal/reflectlite.Value).Elem", "(internal/reflectlite.Value).Set"], unfollowed := true, recurses := true, named := ["unicode/utf8.first", "unicode/utf8.acceptRanges", "errors.errorType"], apart := false, laid := [("unicode/utf8.acceptRanges", laid_unicode_utf8_acceptRanges), ("errors.errorType", laid_errors_errorType), ("unicode/utf8.first", laid_unicode_utf8_first)] }
def ArrTextsSaid : Prop := arrTextsRow.holds Tryd.pinned (OpenSpec.ofChange arrTextsSpec)

/-- ITS FALSE NEIGHBOUR: 'it returns false'. Refute it at one input. -/
def arrTextsWrong : ChangeSpec := { name := "arrTexts", fn := fun _ => fun
  | [d] => { results := [.lit (.bool false)], args := [d] }
  | _ => none }
def ArrTextsWrongFalsely : Prop := arrTextsRow.holds Tryd.pinned (OpenSpec.ofChange arrTextsWrong)

/-- 'ravelinlaw4.MatrixPowers': WHATEVER THE INPUT: true; the input reads as it did. -/
def matrixPowersSpec : ChangeSpec := { name := "matrixPowers", fn := fun _ => fun
  | [d1, d2] => { results := [.lit (.bool true)], args := [d1, d2] }
  | _ => none }
def matrixPowersRow : OpenClaim := { program := "ytcenhemlgapkeaadoor", sum := "d6af29cb585359c99204ebb2b06c9f3389c6421bcdd40d69533bc8738b0619ba", func := "ravelin/ravelinlaw4.MatrixPowers", spec := "matrixPowers", inPlace := ["internal/reflectlite.ValueOf", "(internal/reflectlite.Value).Type", "(internal/reflectlite.Value).IsNil", "internal/reflectlite.TypeOf", "(internal/reflectlite.Value).Elem", "(internal/reflectlite.Value).Set"], unfollowed := true, recurses := true, named := ["errors.errorType"], apart := false, laid := [("errors.errorType", laid_errors_errorType)] }
def MatrixPowersSaid : Prop := matrixPowersRow.holds Tryd.pinned (OpenSpec.ofChange matrixPowersSpec)

/-- ITS FALSE NEIGHBOUR: 'it returns false'. Refute it at one input. -/
def matrixPowersWrong : ChangeSpec := { name := "matrixPowers", fn := fun _ => fun
  | [d1, d2] => { results := [.lit (.bool false)], args := [d1, d2] }
  | _ => none }
def MatrixPowersWrongFalsely : Prop := matrixPowersRow.holds Tryd.pinned (OpenSpec.ofChange matrixPowersWrong)

/-- 'ravelinlaw4.MatrixDets': WHATEVER THE INPUT: true; the input reads as it did. -/
def matrixDetsSpec : ChangeSpec := { name := "matrixDets", fn := fun _ => fun
  | [d] => { results := [.lit (.bool true)], args := [d] }
  | _ => none }
def matrixDetsRow : OpenClaim := { program := "ytcenhemlgapkeaadoor", sum := "d6af29cb585359c99204ebb2b06c9f3389c6421bcdd40d69533bc8738b0619ba", func := "ravelin/ravelinlaw4.MatrixDets", spec := "matrixDets", inPlace := ["internal/reflectlite.ValueOf", "(internal/reflectlite.Value).Type", "(internal/reflectlite.Value).IsNil", "internal/reflectlite.TypeOf", "(internal/reflectlite.Value).Elem", "(internal/reflectlite.Value).Set"], unfollowed := true, recurses := true, named := ["errors.errorType"], apart := false, laid := [("errors.errorType", laid_errors_errorType)] }
def MatrixDetsSaid : Prop := matrixDetsRow.holds Tryd.pinned (OpenSpec.ofChange matrixDetsSpec)

/-- ITS FALSE NEIGHBOUR: 'it returns false'. Refute it at one input. -/
def matrixDetsWrong : ChangeSpec := { name := "matrixDets", fn := fun _ => fun
  | [d] => { results := [.lit (.bool false)], args := [d] }
  | _ => none }
def MatrixDetsWrongFalsely : Prop := matrixDetsRow.holds Tryd.pinned (OpenSpec.ofChange matrixDetsWrong)

/-- 'ravelinlaw4.MatrixAdjugates': WHATEVER THE INPUT: true; the input reads as it did. -/
def matrixAdjugatesSpec : ChangeSpec := { name := "matrixAdjugates", fn := fun _ => fun
  | [d] => { results := [.lit (.bool true)], args := [d] }
  | _ => none }
def matrixAdjugatesRow : OpenClaim := { program := "ytcenhemlgapkeaadoor", sum := "d6af29cb585359c99204ebb2b06c9f3389c6421bcdd40d69533bc8738b0619ba", func := "ravelin/ravelinlaw4.MatrixAdjugates", spec := "matrixAdjugates", inPlace := ["internal/reflectlite.ValueOf", "(internal/reflectlite.Value).Type", "(internal/reflectlite.Value).IsNil", "internal/reflectlite.TypeOf", "(internal/reflectlite.Value).Elem", "(internal/reflectlite.Value).Set"], unfollowed := true, recurses := true, named := ["errors.errorType"], apart := false, laid := [("errors.errorType", laid_errors_errorType)] }
def MatrixAdjugatesSaid : Prop := matrixAdjugatesRow.holds Tryd.pinned (OpenSpec.ofChange matrixAdjugatesSpec)

/-- ITS FALSE NEIGHBOUR: 'it returns false'. Refute it at one input. -/
def matrixAdjugatesWrong : ChangeSpec := { name := "matrixAdjugates", fn := fun _ => fun
  | [d] => { results := [.lit (.bool false)], args := [d] }
  | _ => none }
def MatrixAdjugatesWrongFalsely : Prop := matrixAdjugatesRow.holds Tryd.pinned (OpenSpec.ofChange matrixAdjugatesWrong)

/-- 'ravelinlaw4.MatrixInverses': WHATEVER THE INPUT: true; the input reads as it did. -/
def matrixInversesSpec : ChangeSpec := { name := "matrixInverses", fn := fun _ => fun
  | [d] => { results := [.lit (.bool true)], args := [d] }
  | _ => none }
def matrixInversesRow : OpenClaim := { program := "ytcenhemlgapkeaadoor", sum := "d6af29cb585359c99204ebb2b06c9f3389c6421bcdd40d69533bc8738b0619ba", func := "ravelin/ravelinlaw4.MatrixInverses", spec := "matrixInverses", inPlace := ["internal/reflectlite.ValueOf", "(internal/reflectlite.Value).Type", "(internal/reflectlite.Value).IsNil", "internal/reflectlite.TypeOf", "(internal/reflectlite.Value).Elem", "(internal/reflectlite.Value).Set"], unfollowed := true, recurses := true, named := ["errors.errorType"], apart := false, laid := [("errors.errorType", laid_errors_errorType)] }
def MatrixInversesSaid : Prop := matrixInversesRow.holds Tryd.pinned (OpenSpec.ofChange matrixInversesSpec)

/-- ITS FALSE NEIGHBOUR: 'it returns false'. Refute it at one input. -/
def matrixInversesWrong : ChangeSpec := { name := "matrixInverses", fn := fun _ => fun
  | [d] => { results := [.lit (.bool false)], args := [d] }
  | _ => none }
def MatrixInversesWrongFalsely : Prop := matrixInversesRow.holds Tryd.pinned (OpenSpec.ofChange matrixInversesWrong)

/-- 'ravelinlaw4.ProdOuters': WHATEVER THE INPUT: true; the input reads as it did. -/
def prodOutersSpec : ChangeSpec := { name := "prodOuters", fn := fun _ => fun
  | [d1, d2, d3] => { results := [.lit (.bool true)], args := [d1, d2, d3] }
  | _ => none }
def prodOutersRow : OpenClaim := { program := "ytcenhemlgapkeaadoor", sum := "d6af29cb585359c99204ebb2b06c9f3389c6421bcdd40d69533bc8738b0619ba", func := "ravelin/ravelinlaw4.ProdOuters", spec := "prodOuters", inPlace := ["internal/reflectlite.ValueOf", "(internal/reflectlite.Value).Type", "(internal/reflectlite.Value).IsNil", "internal/reflectlite.TypeOf", "(internal/reflectlite.Value).Elem", "(internal/reflectlite.Value).Set"], unfollowed := true, recurses := true, named := ["errors.errorType"], apart := false, laid := [("errors.errorType", laid_errors_errorType)] }
def ProdOutersSaid : Prop := prodOutersRow.holds Tryd.pinned (OpenSpec.ofChange prodOutersSpec)

/-- ITS FALSE NEIGHBOUR: 'it returns false'. Refute it at one input. -/
def prodOutersWrong : ChangeSpec := { name := "prodOuters", fn := fun _ => fun
  | [d1, d2, d3] => { results := [.lit (.bool false)], args := [d1, d2, d3] }
  | _ => none }
def ProdOutersWrongFalsely : Prop := prodOutersRow.holds Tryd.pinned (OpenSpec.ofChange prodOutersWrong)

/-- 'ravelinlaw4.ProdInners': WHATEVER THE INPUT: true; the input reads as it did. -/
def prodInnersSpec : ChangeSpec := { name := "prodInners", fn := fun _ => fun
  | [d1, d2, d3, d4] => { results := [.lit (.bool true)], args := [d1, d2, d3, d4] }
  | _ => none }
def prodInnersRow : OpenClaim := { program := "ytcenhemlgapkeaadoor", sum := "d6af29cb585359c99204ebb2b06c9f3389c6421bcdd40d69533bc8738b0619ba", func := "ravelin/ravelinlaw4.ProdInners", spec := "prodInners", inPlace := ["internal/reflectlite.ValueOf", "(internal/reflectlite.Value).Type", "(internal/reflectlite.Value).IsNil", "internal/reflectlite.TypeOf", "(internal/reflectlite.Value).Elem", "(internal/reflectlite.Value).Set"], unfollowed := true, recurses := true, named := ["errors.errorType"], apart := false, laid := [("errors.errorType", laid_errors_errorType)] }
def ProdInnersSaid : Prop := prodInnersRow.holds Tryd.pinned (OpenSpec.ofChange prodInnersSpec)

/-- ITS FALSE NEIGHBOUR: 'it returns false'. Refute it at one input. -/
def prodInnersWrong : ChangeSpec := { name := "prodInners", fn := fun _ => fun
  | [d1, d2, d3, d4] => { results := [.lit (.bool false)], args := [d1, d2, d3, d4] }
  | _ => none }
def ProdInnersWrongFalsely : Prop := prodInnersRow.holds Tryd.pinned (OpenSpec.ofChange prodInnersWrong)

/-- 'ravelinlaw4.MatrixBack': WHATEVER THE INPUT: true; the input reads as it did. -/
def matrixBackSpec : ChangeSpec := { name := "matrixBack", fn := fun _ => fun
  | [d] => { results := [.lit (.bool true)], args := [d] }
  | _ => none }
def matrixBackRow : OpenClaim := { program := "ytcenhemlgapkeaadoor", sum := "d6af29cb585359c99204ebb2b06c9f3389c6421bcdd40d69533bc8738b0619ba", func := "ravelin/ravelinlaw4.MatrixBack", spec := "matrixBack", inPlace := ["internal/reflectlite.ValueOf", "(internal/reflectlite.Value).Type", "(internal/reflectlite.Value).IsNil", "internal/reflectlite.TypeOf", "(internal/reflectlite.Value).Elem", "(internal/reflectlite.Value).Set"], unfollowed := true, recurses := true, named := ["errors.errorType"], apart := false, laid := [("errors.errorType", laid_errors_errorType)] }
def MatrixBackSaid : Prop := matrixBackRow.holds Tryd.pinned (OpenSpec.ofChange matrixBackSpec)

/-- ITS FALSE NEIGHBOUR: 'it returns false'. Refute it at one input. -/
def matrixBackWrong : ChangeSpec := { name := "matrixBack", fn := fun _ => fun
  | [d] => { results := [.lit (.bool false)], args := [d] }
  | _ => none }
def MatrixBackWrongFalsely : Prop := matrixBackRow.holds Tryd.pinned (OpenSpec.ofChange matrixBackWrong)

/- THE SECOND FORM. 'bulk': how many values and letters a reading holds, each counted each time it is reached (what is shared counts as often as it is met; a slice's spare places count too). A statement '..UptoSaid' is the law's where the arguments, and the package variables that the reading takes, are together of bulk at most 1048576: NARROWER than '..Said'. Prove '..Said' where nothing that the law and all that it calls make is longer than what came in: it says more and counts as full. Else prove '..UptoSaid'. A law counts once. -/
mutual
def uptoBulk {H : Type} : DataW H → Nat
  | .lit (.string bytes) => bytes.length + 1
  | .lit _ => 1
  | .nil => 1
  | .ptr d => uptoBulk d + 1
  | .slice elems spare => uptoBulkAll elems + uptoBulkAll spare + 1
  | .agg parts => uptoBulkAll parts + 1
  | .iface _ d => uptoBulk d + 1
  | .map entries => uptoBulkEntries entries + 1
  | .held _ => 1
def uptoBulkAll {H : Type} : List (DataW H) → Nat
  | [] => 0
  | d :: r => uptoBulk d + uptoBulkAll r
def uptoBulkEntries {H : Type} : List (Lit × DataW H) → Nat
  | [] => 0
  | x :: r => uptoBulkEntry x + uptoBulkEntries r
def uptoBulkEntry {H : Type} : Lit × DataW H → Nat
  | (.string bytes, d) => bytes.length + uptoBulk d + 1
  | (_, d) => uptoBulk d + 1
 end
def uptoSmall : (H : Type) → List (DataW H) → Bool := fun _ ds => decide (uptoBulkAll ds ≤ 1048576)
def OpenSpec.upto (s : _root_.Go.ChangeSpec) : _root_.Go.OpenSpec := { _root_.Go.OpenSpec.ofChange s with cond := some uptoSmall }

/-- 'ravelinlaw1.ArrSpells', WHERE WHAT IT READS IS OF BULK AT MOST 1048576: true; the input reads as it did. -/
def arrSpellsUptoRow : OpenClaim := { program := "ytcenhemlgapkeaadoor", sum := "d6af29cb585359c99204ebb2b06c9f3389c6421bcdd40d69533bc8738b0619ba", func := "ravelin/ravelinlaw1.ArrSpells", spec := "arrSpells", named := ["unicode/utf8.first", "unicode/utf8.acceptRanges"], apart := false, laid := [("unicode/utf8.acceptRanges", laid_unicode_utf8_acceptRanges), ("unicode/utf8.first", laid_unicode_utf8_first)], narrowed := true }
def ArrSpellsUptoSaid : Prop := arrSpellsUptoRow.holds Tryd.pinned (OpenSpec.upto arrSpellsSpec)

/-- 'ravelinlaw1.ArrTexts', WHERE WHAT IT READS IS OF BULK AT MOST 1048576: true; the input reads as it did. -/
def arrTextsUptoRow : OpenClaim := { program := "ytcenhemlgapkeaadoor", sum := "d6af29cb585359c99204ebb2b06c9f3389c6421bcdd40d69533bc8738b0619ba", func := "ravelin/ravelinlaw1.ArrTexts", spec := "arrTexts", inPlace := ["internal/reflectlite.ValueOf", "(internal/reflectlite.Value).Type", "(internal/reflectlite.Value).IsNil", "internal/reflectlite.TypeOf", "(internal/reflectlite.Value).Elem", "(internal/reflectlite.Value).Set"], unfollowed := true, recurses := true, named := ["unicode/utf8.first", "unicode/utf8.acceptRanges", "errors.errorType"], apart := false, laid := [("unicode/utf8.acceptRanges", laid_unicode_utf8_acceptRanges), ("errors.errorType", laid_errors_errorType), ("unicode/utf8.first", laid_unicode_utf8_first)], narrowed := true }
def ArrTextsUptoSaid : Prop := arrTextsUptoRow.holds Tryd.pinned (OpenSpec.upto arrTextsSpec)

/-- 'ravelinlaw4.MatrixPowers', WHERE WHAT IT READS IS OF BULK AT MOST 1048576: true; the input reads as it did. -/
def matrixPowersUptoRow : OpenClaim := { program := "ytcenhemlgapkeaadoor", sum := "d6af29cb585359c99204ebb2b06c9f3389c6421bcdd40d69533bc8738b0619ba", func := "ravelin/ravelinlaw4.MatrixPowers", spec := "matrixPowers", inPlace := ["internal/reflectlite.ValueOf", "(internal/reflectlite.Value).Type", "(internal/reflectlite.Value).IsNil", "internal/reflectlite.TypeOf", "(internal/reflectlite.Value).Elem", "(internal/reflectlite.Value).Set"], unfollowed := true, recurses := true, named := ["errors.errorType"], apart := false, laid := [("errors.errorType", laid_errors_errorType)], narrowed := true }
def MatrixPowersUptoSaid : Prop := matrixPowersUptoRow.holds Tryd.pinned (OpenSpec.upto matrixPowersSpec)

/-- 'ravelinlaw4.MatrixDets', WHERE WHAT IT READS IS OF BULK AT MOST 1048576: true; the input reads as it did. -/
def matrixDetsUptoRow : OpenClaim := { program := "ytcenhemlgapkeaadoor", sum := "d6af29cb585359c99204ebb2b06c9f3389c6421bcdd40d69533bc8738b0619ba", func := "ravelin/ravelinlaw4.MatrixDets", spec := "matrixDets", inPlace := ["internal/reflectlite.ValueOf", "(internal/reflectlite.Value).Type", "(internal/reflectlite.Value).IsNil", "internal/reflectlite.TypeOf", "(internal/reflectlite.Value).Elem", "(internal/reflectlite.Value).Set"], unfollowed := true, recurses := true, named := ["errors.errorType"], apart := false, laid := [("errors.errorType", laid_errors_errorType)], narrowed := true }
def MatrixDetsUptoSaid : Prop := matrixDetsUptoRow.holds Tryd.pinned (OpenSpec.upto matrixDetsSpec)

/-- 'ravelinlaw4.MatrixAdjugates', WHERE WHAT IT READS IS OF BULK AT MOST 1048576: true; the input reads as it did. -/
def matrixAdjugatesUptoRow : OpenClaim := { program := "ytcenhemlgapkeaadoor", sum := "d6af29cb585359c99204ebb2b06c9f3389c6421bcdd40d69533bc8738b0619ba", func := "ravelin/ravelinlaw4.MatrixAdjugates", spec := "matrixAdjugates", inPlace := ["internal/reflectlite.ValueOf", "(internal/reflectlite.Value).Type", "(internal/reflectlite.Value).IsNil", "internal/reflectlite.TypeOf", "(internal/reflectlite.Value).Elem", "(internal/reflectlite.Value).Set"], unfollowed := true, recurses := true, named := ["errors.errorType"], apart := false, laid := [("errors.errorType", laid_errors_errorType)], narrowed := true }
def MatrixAdjugatesUptoSaid : Prop := matrixAdjugatesUptoRow.holds Tryd.pinned (OpenSpec.upto matrixAdjugatesSpec)

/-- 'ravelinlaw4.MatrixInverses', WHERE WHAT IT READS IS OF BULK AT MOST 1048576: true; the input reads as it did. -/
def matrixInversesUptoRow : OpenClaim := { program := "ytcenhemlgapkeaadoor", sum := "d6af29cb585359c99204ebb2b06c9f3389c6421bcdd40d69533bc8738b0619ba", func := "ravelin/ravelinlaw4.MatrixInverses", spec := "matrixInverses", inPlace := ["internal/reflectlite.ValueOf", "(internal/reflectlite.Value).Type", "(internal/reflectlite.Value).IsNil", "internal/reflectlite.TypeOf", "(internal/reflectlite.Value).Elem", "(internal/reflectlite.Value).Set"], unfollowed := true, recurses := true, named := ["errors.errorType"], apart := false, laid := [("errors.errorType", laid_errors_errorType)], narrowed := true }
def MatrixInversesUptoSaid : Prop := matrixInversesUptoRow.holds Tryd.pinned (OpenSpec.upto matrixInversesSpec)

/-- 'ravelinlaw4.ProdOuters', WHERE WHAT IT READS IS OF BULK AT MOST 1048576: true; the input reads as it did. -/
def prodOutersUptoRow : OpenClaim := { program := "ytcenhemlgapkeaadoor", sum := "d6af29cb585359c99204ebb2b06c9f3389c6421bcdd40d69533bc8738b0619ba", func := "ravelin/ravelinlaw4.ProdOuters", spec := "prodOuters", inPlace := ["internal/reflectlite.ValueOf", "(internal/reflectlite.Value).Type", "(internal/reflectlite.Value).IsNil", "internal/reflectlite.TypeOf", "(internal/reflectlite.Value).Elem", "(internal/reflectlite.Value).Set"], unfollowed := true, recurses := true, named := ["errors.errorType"], apart := false, laid := [("errors.errorType", laid_errors_errorType)], narrowed := true }
def ProdOutersUptoSaid : Prop := prodOutersUptoRow.holds Tryd.pinned (OpenSpec.upto prodOutersSpec)

/-- 'ravelinlaw4.ProdInners', WHERE WHAT IT READS IS OF BULK AT MOST 1048576: true; the input reads as it did. -/
def prodInnersUptoRow : OpenClaim := { program := "ytcenhemlgapkeaadoor", sum := "d6af29cb585359c99204ebb2b06c9f3389c6421bcdd40d69533bc8738b0619ba", func := "ravelin/ravelinlaw4.ProdInners", spec := "prodInners", inPlace := ["internal/reflectlite.ValueOf", "(internal/reflectlite.Value).Type", "(internal/reflectlite.Value).IsNil", "internal/reflectlite.TypeOf", "(internal/reflectlite.Value).Elem", "(internal/reflectlite.Value).Set"], unfollowed := true, recurses := true, named := ["errors.errorType"], apart := false, laid := [("errors.errorType", laid_errors_errorType)], narrowed := true }
def ProdInnersUptoSaid : Prop := prodInnersUptoRow.holds Tryd.pinned (OpenSpec.upto prodInnersSpec)

/-- 'ravelinlaw4.MatrixBack', WHERE WHAT IT READS IS OF BULK AT MOST 1048576: true; the input reads as it did. -/
def matrixBackUptoRow : OpenClaim := { program := "ytcenhemlgapkeaadoor", sum := "d6af29cb585359c99204ebb2b06c9f3389c6421bcdd40d69533bc8738b0619ba", func := "ravelin/ravelinlaw4.MatrixBack", spec := "matrixBack", inPlace := ["internal/reflectlite.ValueOf", "(internal/reflectlite.Value).Type", "(internal/reflectlite.Value).IsNil", "internal/reflectlite.TypeOf", "(internal/reflectlite.Value).Elem", "(internal/reflectlite.Value).Set"], unfollowed := true, recurses := true, named := ["errors.errorType"], apart := false, laid := [("errors.errorType", laid_errors_errorType)], narrowed := true }
def MatrixBackUptoSaid : Prop := matrixBackUptoRow.holds Tryd.pinned (OpenSpec.upto matrixBackSpec)

end Rows
end Go.Proofs.YtcenhemlgapkeaaDoor
