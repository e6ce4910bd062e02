/-
  NARROWER THAN 'FOR EVERY INPUT', by the rows' own cells (each row's printed sentence says how): ArrSpells: laid · ReachNear: laid · ArrTexts: laid · ArrShapes: laid · ReachOrders: laid · EachOnes: laid · ReachFars: laid · MatrixPowers: laid · ReachCloses: laid · ReachAhead: laid · MatrixDets: laid · MatrixAdjugates: laid · MatrixInverses: laid · EachTwos: laid · ProdOuters: laid · ProdInners: laid · MatrixBack: laid.
  DERIVED. THE GIVEN ROWS OF THIS SEAT. 17 by the template 'for every input the law returns true; each argument reads behind the call as it read before'; 0 by the template 'total and deterministic' (their statements: YtiebknfmmanbiaaDoorTotals.lean).
  GIVEN WITH THE SEED: the statements are not yours to turn. If you find one false, say at which input.
  Laid BY PROGRAM, IN A SANDBOX (cutbox-rows.mjs): the forced cells as the released guide's own fill.sh prints them over the translation 670eb9deedf282f5… (all of the seat's roots in one cut). By AI agents, Wed Nov 11 2026. No macro, syntax, notation, axiom, sorry.
-/
import Derived.Test.YtiebknfmmanbiaaDoorChecked
import GoSem.PinnedTables
import GoSem.Claim
import GoSem.ClaimJoined
import GoSem.ClaimMapViews
import Derived.JoinedTies
import Derived.KernelRfl
namespace Go.Proofs.YtiebknfmmanbiaaDoor
/- THE CELL 'sum', in the pinned program and in every row, IS THE sha256 OF THE DUMP (.gsa) THAT YtiebknfmmanbiaaDoorProg.lean LOADS. Nothing in Lean hashes anything: it is a label: what it is worth is what the hold of that sum in a sandbox is worth. -/
noncomputable def Tryd.pinned : Pinned := { name := "ytiebknfmmanbiaadoor", sum := "670eb9deedf282f5e052c17f8c67c28162ab386122c028fc4f1c4ffcd2513229", checked := Tryd.checked }
namespace Rows
def none {H : Type} : Left H := { results := [], args := [] }

/- WHAT THE LISTED PACKAGE-LEVEL VARIABLES READ AS WHEN THE CALL BEGINS. Each datum BY PROGRAM (the guide's laid-datum.mjs) off the statement by which the dump's own 'gosem.cut.vars' lays the variable. In a bare row this is a premise. The card (YtiebknfmmanbiaaDoorCards.lean) ties it to the program's text. -/
def laid_unicode_utf8_acceptRanges {H : Type} : DataW H := .agg [.agg [.lit (.int .u8 128), .lit (.int .u8 191)], .agg [.lit (.int .u8 160), .lit (.int .u8 191)], .agg [.lit (.int .u8 128), .lit (.int .u8 159)], .agg [.lit (.int .u8 144), .lit (.int .u8 191)], .agg [.lit (.int .u8 128), .lit (.int .u8 143)], .agg [.lit (.int .u8 0), .lit (.int .u8 0)], .agg [.lit (.int .u8 0), .lit (.int .u8 0)], .agg [.lit (.int .u8 0), .lit (.int .u8 0)], .agg [.lit (.int .u8 0), .lit (.int .u8 0)], .agg [.lit (.int .u8 0), .lit (.int .u8 0)], .agg [.lit (.int .u8 0), .lit (.int .u8 0)], .agg [.lit (.int .u8 0), .lit (.int .u8 0)], .agg [.lit (.int .u8 0), .lit (.int .u8 0)], .agg [.lit (.int .u8 0), .lit (.int .u8 0)], .agg [.lit (.int .u8 0), .lit (.int .u8 0)], .agg [.lit (.int .u8 0), .lit (.int .u8 0)]]
/-- One of Go's own tables, pinned by name: the form's constant. -/
def laid_unicode_utf8_first : DataW Unit := Go.Pinned.utf8First
def laid_math_bits_deBruijn32tab {H : Type} : DataW H := .agg [.lit (.int .u8 0), .lit (.int .u8 1), .lit (.int .u8 28), .lit (.int .u8 2), .lit (.int .u8 29), .lit (.int .u8 14), .lit (.int .u8 24), .lit (.int .u8 3), .lit (.int .u8 30), .lit (.int .u8 22), .lit (.int .u8 20), .lit (.int .u8 15), .lit (.int .u8 25), .lit (.int .u8 17), .lit (.int .u8 4), .lit (.int .u8 8), .lit (.int .u8 31), .lit (.int .u8 27), .lit (.int .u8 13), .lit (.int .u8 23), .lit (.int .u8 21), .lit (.int .u8 19), .lit (.int .u8 16), .lit (.int .u8 7), .lit (.int .u8 26), .lit (.int .u8 12), .lit (.int .u8 18), .lit (.int .u8 6), .lit (.int .u8 11), .lit (.int .u8 5), .lit (.int .u8 10), .lit (.int .u8 9)]
def laid_errors_errorType {H : Type} : DataW H := .iface "internal/reflectlite.rtype" (.agg [.ptr (.lit (.string [101, 114, 114, 111, 114]))])

/-- 'ravelinlaw1.ArrSpells': WHATEVER THE INPUT: true; the input reads as it did. -/
def arrSpellsSpec : ChangeSpec := { name := "arrSpells", fn := fun _ => fun
  | [d1, d2] => { results := [.lit (.bool true)], args := [d1, d2] }
  | _ => none }
def arrSpellsRow : OpenClaim := { program := "ytiebknfmmanbiaadoor", sum := "670eb9deedf282f5e052c17f8c67c28162ab386122c028fc4f1c4ffcd2513229", func := "ravelin/ravelinlaw1.ArrSpells", spec := "arrSpells", named := ["unicode/utf8.first", "unicode/utf8.acceptRanges"], apart := false, laid := [("unicode/utf8.acceptRanges", laid_unicode_utf8_acceptRanges), ("unicode/utf8.first", laid_unicode_utf8_first)] }
def ArrSpellsSaid : Prop := arrSpellsRow.holds Tryd.pinned (OpenSpec.ofChange arrSpellsSpec)

/-- ITS FALSE NEIGHBOUR: 'it returns false'. Refute it at one input. -/
def arrSpellsWrong : ChangeSpec := { name := "arrSpells", fn := fun _ => fun
  | [d1, d2] => { results := [.lit (.bool false)], args := [d1, d2] }
  | _ => none }
def ArrSpellsWrongFalsely : Prop := arrSpellsRow.holds Tryd.pinned (OpenSpec.ofChange arrSpellsWrong)

/-- 'ravelinlaw4.ReachNear': WHATEVER THE INPUT: true; the input reads as it did. -/
def reachNearSpec : ChangeSpec := { name := "reachNear", fn := fun _ => fun
  | [d1, d2] => { results := [.lit (.bool true)], args := [d1, d2] }
  | _ => none }
def reachNearRow : OpenClaim := { program := "ytiebknfmmanbiaadoor", sum := "670eb9deedf282f5e052c17f8c67c28162ab386122c028fc4f1c4ffcd2513229", func := "ravelin/ravelinlaw4.ReachNear", spec := "reachNear", named := ["math/bits.deBruijn32tab"], apart := false, laid := [("math/bits.deBruijn32tab", laid_math_bits_deBruijn32tab)] }
def ReachNearSaid : Prop := reachNearRow.holds Tryd.pinned (OpenSpec.ofChange reachNearSpec)

/-- ITS FALSE NEIGHBOUR: 'it returns false'. Refute it at one input. -/
def reachNearWrong : ChangeSpec := { name := "reachNear", fn := fun _ => fun
  | [d1, d2] => { results := [.lit (.bool false)], args := [d1, d2] }
  | _ => none }
def ReachNearWrongFalsely : Prop := reachNearRow.holds Tryd.pinned (OpenSpec.ofChange reachNearWrong)

/-- 'ravelinlaw1.ArrTexts': WHATEVER THE INPUT: true; the input reads as it did. -/
def arrTextsSpec : ChangeSpec := { name := "arrTexts", fn := fun _ => fun
  | [d] => { results := [.lit (.bool true)], args := [d] }
  | _ => none }
def arrTextsRow : OpenClaim := { program := "ytiebknfmmanbiaadoor", sum := "670eb9deedf282f5e052c17f8c67c28162ab386122c028fc4f1c4ffcd2513229", func := "ravelin/ravelinlaw1.ArrTexts", spec := "arrTexts", inPlace := ["internal/reflectlite.ValueOf", "(internal/reflectlite.Value).Type", "(internal/reflectlite.Value).IsNil", "internal/reflectlite.TypeOf", "(internal/reflectlite.Value).Elem", "(internal/reflectlite.Value).Set"], unfollowed := true, recurses := true, named := ["unicode/utf8.first", "unicode/utf8.acceptRanges", "errors.errorType"], apart := false, laid := [("unicode/utf8.acceptRanges", laid_unicode_utf8_acceptRanges), ("errors.errorType", laid_errors_errorType), ("unicode/utf8.first", laid_unicode_utf8_first)] }
def ArrTextsSaid : Prop := arrTextsRow.holds Tryd.pinned (OpenSpec.ofChange arrTextsSpec)

/-- ITS FALSE NEIGHBOUR: 'it returns false'. Refute it at one input. -/
def arrTextsWrong : ChangeSpec := { name := "arrTexts", fn := fun _ => fun
  | [d] => { results := [.lit (.bool false)], args := [d] }
  | _ => none }
def ArrTextsWrongFalsely : Prop := arrTextsRow.holds Tryd.pinned (OpenSpec.ofChange arrTextsWrong)

/-- 'ravelinlaw1.ArrShapes': WHATEVER THE INPUT: true; the input reads as it did. -/
def arrShapesSpec : ChangeSpec := { name := "arrShapes", fn := fun _ => fun
  | [d1, d2] => { results := [.lit (.bool true)], args := [d1, d2] }
  | _ => none }
def arrShapesRow : OpenClaim := { program := "ytiebknfmmanbiaadoor", sum := "670eb9deedf282f5e052c17f8c67c28162ab386122c028fc4f1c4ffcd2513229", func := "ravelin/ravelinlaw1.ArrShapes", spec := "arrShapes", inPlace := ["internal/reflectlite.ValueOf", "(internal/reflectlite.Value).Type", "(internal/reflectlite.Value).IsNil", "internal/reflectlite.TypeOf", "(internal/reflectlite.Value).Elem", "(internal/reflectlite.Value).Set"], unfollowed := true, recurses := true, named := ["errors.errorType"], apart := false, laid := [("errors.errorType", laid_errors_errorType)] }
def ArrShapesSaid : Prop := arrShapesRow.holds Tryd.pinned (OpenSpec.ofChange arrShapesSpec)

/-- ITS FALSE NEIGHBOUR: 'it returns false'. Refute it at one input. -/
def arrShapesWrong : ChangeSpec := { name := "arrShapes", fn := fun _ => fun
  | [d1, d2] => { results := [.lit (.bool false)], args := [d1, d2] }
  | _ => none }
def ArrShapesWrongFalsely : Prop := arrShapesRow.holds Tryd.pinned (OpenSpec.ofChange arrShapesWrong)

/-- 'ravelinlaw4.ReachOrders': WHATEVER THE INPUT: true; the input reads as it did. -/
def reachOrdersSpec : ChangeSpec := { name := "reachOrders", fn := fun _ => fun
  | [d] => { results := [.lit (.bool true)], args := [d] }
  | _ => none }
def reachOrdersRow : OpenClaim := { program := "ytiebknfmmanbiaadoor", sum := "670eb9deedf282f5e052c17f8c67c28162ab386122c028fc4f1c4ffcd2513229", func := "ravelin/ravelinlaw4.ReachOrders", spec := "reachOrders", inPlace := ["internal/reflectlite.ValueOf", "(internal/reflectlite.Value).Type", "(internal/reflectlite.Value).IsNil", "internal/reflectlite.TypeOf", "(internal/reflectlite.Value).Elem", "(internal/reflectlite.Value).Set"], unfollowed := true, recurses := true, named := ["errors.errorType"], apart := false, laid := [("errors.errorType", laid_errors_errorType)] }
def ReachOrdersSaid : Prop := reachOrdersRow.holds Tryd.pinned (OpenSpec.ofChange reachOrdersSpec)

/-- ITS FALSE NEIGHBOUR: 'it returns false'. Refute it at one input. -/
def reachOrdersWrong : ChangeSpec := { name := "reachOrders", fn := fun _ => fun
  | [d] => { results := [.lit (.bool false)], args := [d] }
  | _ => none }
def ReachOrdersWrongFalsely : Prop := reachOrdersRow.holds Tryd.pinned (OpenSpec.ofChange reachOrdersWrong)

/-- 'ravelinlaw1.EachOnes': WHATEVER THE INPUT: true; the input reads as it did. -/
def eachOnesSpec : ChangeSpec := { name := "eachOnes", fn := fun _ => fun
  | [d1, d2] => { results := [.lit (.bool true)], args := [d1, d2] }
  | _ => none }
def eachOnesRow : OpenClaim := { program := "ytiebknfmmanbiaadoor", sum := "670eb9deedf282f5e052c17f8c67c28162ab386122c028fc4f1c4ffcd2513229", func := "ravelin/ravelinlaw1.EachOnes", spec := "eachOnes", inPlace := ["internal/reflectlite.ValueOf", "(internal/reflectlite.Value).Type", "(internal/reflectlite.Value).IsNil", "internal/reflectlite.TypeOf", "(internal/reflectlite.Value).Elem", "(internal/reflectlite.Value).Set"], unfollowed := true, recurses := true, named := ["errors.errorType"], apart := false, laid := [("errors.errorType", laid_errors_errorType)] }
def EachOnesSaid : Prop := eachOnesRow.holds Tryd.pinned (OpenSpec.ofChange eachOnesSpec)

/-- ITS FALSE NEIGHBOUR: 'it returns false'. Refute it at one input. -/
def eachOnesWrong : ChangeSpec := { name := "eachOnes", fn := fun _ => fun
  | [d1, d2] => { results := [.lit (.bool false)], args := [d1, d2] }
  | _ => none }
def EachOnesWrongFalsely : Prop := eachOnesRow.holds Tryd.pinned (OpenSpec.ofChange eachOnesWrong)

/-- 'ravelinlaw4.ReachFars': WHATEVER THE INPUT: true; the input reads as it did. -/
def reachFarsSpec : ChangeSpec := { name := "reachFars", fn := fun _ => fun
  | [d1, d2] => { results := [.lit (.bool true)], args := [d1, d2] }
  | _ => none }
def reachFarsRow : OpenClaim := { program := "ytiebknfmmanbiaadoor", sum := "670eb9deedf282f5e052c17f8c67c28162ab386122c028fc4f1c4ffcd2513229", func := "ravelin/ravelinlaw4.ReachFars", spec := "reachFars", inPlace := ["internal/reflectlite.ValueOf", "(internal/reflectlite.Value).Type", "(internal/reflectlite.Value).IsNil", "internal/reflectlite.TypeOf", "(internal/reflectlite.Value).Elem", "(internal/reflectlite.Value).Set"], unfollowed := true, recurses := true, named := ["math/bits.deBruijn32tab", "errors.errorType"], apart := false, laid := [("math/bits.deBruijn32tab", laid_math_bits_deBruijn32tab), ("errors.errorType", laid_errors_errorType)] }
def ReachFarsSaid : Prop := reachFarsRow.holds Tryd.pinned (OpenSpec.ofChange reachFarsSpec)

/-- ITS FALSE NEIGHBOUR: 'it returns false'. Refute it at one input. -/
def reachFarsWrong : ChangeSpec := { name := "reachFars", fn := fun _ => fun
  | [d1, d2] => { results := [.lit (.bool false)], args := [d1, d2] }
  | _ => none }
def ReachFarsWrongFalsely : Prop := reachFarsRow.holds Tryd.pinned (OpenSpec.ofChange reachFarsWrong)

/-- 'ravelinlaw4.MatrixPowers': WHATEVER THE INPUT: true; the input reads as it did. -/
def matrixPowersSpec : ChangeSpec := { name := "matrixPowers", fn := fun _ => fun
  | [d1, d2] => { results := [.lit (.bool true)], args := [d1, d2] }
  | _ => none }
def matrixPowersRow : OpenClaim := { program := "ytiebknfmmanbiaadoor", sum := "670eb9deedf282f5e052c17f8c67c28162ab386122c028fc4f1c4ffcd2513229", func := "ravelin/ravelinlaw4.MatrixPowers", spec := "matrixPowers", inPlace := ["internal/reflectlite.ValueOf", "(internal/reflectlite.Value).Type", "(internal/reflectlite.Value).IsNil", "internal/reflectlite.TypeOf", "(internal/reflectlite.Value).Elem", "(internal/reflectlite.Value).Set"], unfollowed := true, recurses := true, named := ["errors.errorType"], apart := false, laid := [("errors.errorType", laid_errors_errorType)] }
def MatrixPowersSaid : Prop := matrixPowersRow.holds Tryd.pinned (OpenSpec.ofChange matrixPowersSpec)

/-- ITS FALSE NEIGHBOUR: 'it returns false'. Refute it at one input. -/
def matrixPowersWrong : ChangeSpec := { name := "matrixPowers", fn := fun _ => fun
  | [d1, d2] => { results := [.lit (.bool false)], args := [d1, d2] }
  | _ => none }
def MatrixPowersWrongFalsely : Prop := matrixPowersRow.holds Tryd.pinned (OpenSpec.ofChange matrixPowersWrong)

/-- 'ravelinlaw4.ReachCloses': WHATEVER THE INPUT: true; the input reads as it did. -/
def reachClosesSpec : ChangeSpec := { name := "reachCloses", fn := fun _ => fun
  | [d] => { results := [.lit (.bool true)], args := [d] }
  | _ => none }
def reachClosesRow : OpenClaim := { program := "ytiebknfmmanbiaadoor", sum := "670eb9deedf282f5e052c17f8c67c28162ab386122c028fc4f1c4ffcd2513229", func := "ravelin/ravelinlaw4.ReachCloses", spec := "reachCloses", inPlace := ["internal/reflectlite.ValueOf", "(internal/reflectlite.Value).Type", "(internal/reflectlite.Value).IsNil", "internal/reflectlite.TypeOf", "(internal/reflectlite.Value).Elem", "(internal/reflectlite.Value).Set"], unfollowed := true, recurses := true, named := ["errors.errorType"], apart := false, laid := [("errors.errorType", laid_errors_errorType)] }
def ReachClosesSaid : Prop := reachClosesRow.holds Tryd.pinned (OpenSpec.ofChange reachClosesSpec)

/-- ITS FALSE NEIGHBOUR: 'it returns false'. Refute it at one input. -/
def reachClosesWrong : ChangeSpec := { name := "reachCloses", fn := fun _ => fun
  | [d] => { results := [.lit (.bool false)], args := [d] }
  | _ => none }
def ReachClosesWrongFalsely : Prop := reachClosesRow.holds Tryd.pinned (OpenSpec.ofChange reachClosesWrong)

/-- 'ravelinlaw4.ReachAhead': WHATEVER THE INPUT: true; the input reads as it did. -/
def reachAheadSpec : ChangeSpec := { name := "reachAhead", fn := fun _ => fun
  | [d] => { results := [.lit (.bool true)], args := [d] }
  | _ => none }
def reachAheadRow : OpenClaim := { program := "ytiebknfmmanbiaadoor", sum := "670eb9deedf282f5e052c17f8c67c28162ab386122c028fc4f1c4ffcd2513229", func := "ravelin/ravelinlaw4.ReachAhead", spec := "reachAhead", inPlace := ["internal/reflectlite.ValueOf", "(internal/reflectlite.Value).Type", "(internal/reflectlite.Value).IsNil", "internal/reflectlite.TypeOf", "(internal/reflectlite.Value).Elem", "(internal/reflectlite.Value).Set"], unfollowed := true, recurses := true, named := ["errors.errorType"], apart := false, laid := [("errors.errorType", laid_errors_errorType)] }
def ReachAheadSaid : Prop := reachAheadRow.holds Tryd.pinned (OpenSpec.ofChange reachAheadSpec)

/-- ITS FALSE NEIGHBOUR: 'it returns false'. Refute it at one input. -/
def reachAheadWrong : ChangeSpec := { name := "reachAhead", fn := fun _ => fun
  | [d] => { results := [.lit (.bool false)], args := [d] }
  | _ => none }
def ReachAheadWrongFalsely : Prop := reachAheadRow.holds Tryd.pinned (OpenSpec.ofChange reachAheadWrong)

/-- 'ravelinlaw4.MatrixDets': WHATEVER THE INPUT: true; the input reads as it did. -/
def matrixDetsSpec : ChangeSpec := { name := "matrixDets", fn := fun _ => fun
  | [d] => { results := [.lit (.bool true)], args := [d] }
  | _ => none }
def matrixDetsRow : OpenClaim := { program := "ytiebknfmmanbiaadoor", sum := "670eb9deedf282f5e052c17f8c67c28162ab386122c028fc4f1c4ffcd2513229", func := "ravelin/ravelinlaw4.MatrixDets", spec := "matrixDets", inPlace := ["internal/reflectlite.ValueOf", "(internal/reflectlite.Value).Type", "(internal/reflectlite.Value).IsNil", "internal/reflectlite.TypeOf", "(internal/reflectlite.Value).Elem", "(internal/reflectlite.Value).Set"], unfollowed := true, recurses := true, named := ["errors.errorType"], apart := false, laid := [("errors.errorType", laid_errors_errorType)] }
def MatrixDetsSaid : Prop := matrixDetsRow.holds Tryd.pinned (OpenSpec.ofChange matrixDetsSpec)

/-- ITS FALSE NEIGHBOUR: 'it returns false'. Refute it at one input. -/
def matrixDetsWrong : ChangeSpec := { name := "matrixDets", fn := fun _ => fun
  | [d] => { results := [.lit (.bool false)], args := [d] }
  | _ => none }
def MatrixDetsWrongFalsely : Prop := matrixDetsRow.holds Tryd.pinned (OpenSpec.ofChange matrixDetsWrong)

/-- 'ravelinlaw4.MatrixAdjugates': WHATEVER THE INPUT: true; the input reads as it did. -/
def matrixAdjugatesSpec : ChangeSpec := { name := "matrixAdjugates", fn := fun _ => fun
  | [d] => { results := [.lit (.bool true)], args := [d] }
  | _ => none }
def matrixAdjugatesRow : OpenClaim := { program := "ytiebknfmmanbiaadoor", sum := "670eb9deedf282f5e052c17f8c67c28162ab386122c028fc4f1c4ffcd2513229", func := "ravelin/ravelinlaw4.MatrixAdjugates", spec := "matrixAdjugates", inPlace := ["internal/reflectlite.ValueOf", "(internal/reflectlite.Value).Type", "(internal/reflectlite.Value).IsNil", "internal/reflectlite.TypeOf", "(internal/reflectlite.Value).Elem", "(internal/reflectlite.Value).Set"], unfollowed := true, recurses := true, named := ["errors.errorType"], apart := false, laid := [("errors.errorType", laid_errors_errorType)] }
def MatrixAdjugatesSaid : Prop := matrixAdjugatesRow.holds Tryd.pinned (OpenSpec.ofChange matrixAdjugatesSpec)

/-- ITS FALSE NEIGHBOUR: 'it returns false'. Refute it at one input. -/
def matrixAdjugatesWrong : ChangeSpec := { name := "matrixAdjugates", fn := fun _ => fun
  | [d] => { results := [.lit (.bool false)], args := [d] }
  | _ => none }
def MatrixAdjugatesWrongFalsely : Prop := matrixAdjugatesRow.holds Tryd.pinned (OpenSpec.ofChange matrixAdjugatesWrong)

/-- 'ravelinlaw4.MatrixInverses': WHATEVER THE INPUT: true; the input reads as it did. -/
def matrixInversesSpec : ChangeSpec := { name := "matrixInverses", fn := fun _ => fun
  | [d] => { results := [.lit (.bool true)], args := [d] }
  | _ => none }
def matrixInversesRow : OpenClaim := { program := "ytiebknfmmanbiaadoor", sum := "670eb9deedf282f5e052c17f8c67c28162ab386122c028fc4f1c4ffcd2513229", func := "ravelin/ravelinlaw4.MatrixInverses", spec := "matrixInverses", inPlace := ["internal/reflectlite.ValueOf", "(internal/reflectlite.Value).Type", "(internal/reflectlite.Value).IsNil", "internal/reflectlite.TypeOf", "(internal/reflectlite.Value).Elem", "(internal/reflectlite.Value).Set"], unfollowed := true, recurses := true, named := ["errors.errorType"], apart := false, laid := [("errors.errorType", laid_errors_errorType)] }
def MatrixInversesSaid : Prop := matrixInversesRow.holds Tryd.pinned (OpenSpec.ofChange matrixInversesSpec)

/-- ITS FALSE NEIGHBOUR: 'it returns false'. Refute it at one input. -/
def matrixInversesWrong : ChangeSpec := { name := "matrixInverses", fn := fun _ => fun
  | [d] => { results := [.lit (.bool false)], args := [d] }
  | _ => none }
def MatrixInversesWrongFalsely : Prop := matrixInversesRow.holds Tryd.pinned (OpenSpec.ofChange matrixInversesWrong)

/-- 'ravelinlaw1.EachTwos': WHATEVER THE INPUT: true; the input reads as it did. -/
def eachTwosSpec : ChangeSpec := { name := "eachTwos", fn := fun _ => fun
  | [d1, d2, d3] => { results := [.lit (.bool true)], args := [d1, d2, d3] }
  | _ => none }
def eachTwosRow : OpenClaim := { program := "ytiebknfmmanbiaadoor", sum := "670eb9deedf282f5e052c17f8c67c28162ab386122c028fc4f1c4ffcd2513229", func := "ravelin/ravelinlaw1.EachTwos", spec := "eachTwos", inPlace := ["internal/reflectlite.ValueOf", "(internal/reflectlite.Value).Type", "(internal/reflectlite.Value).IsNil", "internal/reflectlite.TypeOf", "(internal/reflectlite.Value).Elem", "(internal/reflectlite.Value).Set"], unfollowed := true, recurses := true, named := ["errors.errorType"], apart := false, laid := [("errors.errorType", laid_errors_errorType)] }
def EachTwosSaid : Prop := eachTwosRow.holds Tryd.pinned (OpenSpec.ofChange eachTwosSpec)

/-- ITS FALSE NEIGHBOUR: 'it returns false'. Refute it at one input. -/
def eachTwosWrong : ChangeSpec := { name := "eachTwos", fn := fun _ => fun
  | [d1, d2, d3] => { results := [.lit (.bool false)], args := [d1, d2, d3] }
  | _ => none }
def EachTwosWrongFalsely : Prop := eachTwosRow.holds Tryd.pinned (OpenSpec.ofChange eachTwosWrong)

/-- 'ravelinlaw4.ProdOuters': WHATEVER THE INPUT: true; the input reads as it did. -/
def prodOutersSpec : ChangeSpec := { name := "prodOuters", fn := fun _ => fun
  | [d1, d2, d3] => { results := [.lit (.bool true)], args := [d1, d2, d3] }
  | _ => none }
def prodOutersRow : OpenClaim := { program := "ytiebknfmmanbiaadoor", sum := "670eb9deedf282f5e052c17f8c67c28162ab386122c028fc4f1c4ffcd2513229", func := "ravelin/ravelinlaw4.ProdOuters", spec := "prodOuters", inPlace := ["internal/reflectlite.ValueOf", "(internal/reflectlite.Value).Type", "(internal/reflectlite.Value).IsNil", "internal/reflectlite.TypeOf", "(internal/reflectlite.Value).Elem", "(internal/reflectlite.Value).Set"], unfollowed := true, recurses := true, named := ["errors.errorType"], apart := false, laid := [("errors.errorType", laid_errors_errorType)] }
def ProdOutersSaid : Prop := prodOutersRow.holds Tryd.pinned (OpenSpec.ofChange prodOutersSpec)

/-- ITS FALSE NEIGHBOUR: 'it returns false'. Refute it at one input. -/
def prodOutersWrong : ChangeSpec := { name := "prodOuters", fn := fun _ => fun
  | [d1, d2, d3] => { results := [.lit (.bool false)], args := [d1, d2, d3] }
  | _ => none }
def ProdOutersWrongFalsely : Prop := prodOutersRow.holds Tryd.pinned (OpenSpec.ofChange prodOutersWrong)

/-- 'ravelinlaw4.ProdInners': WHATEVER THE INPUT: true; the input reads as it did. -/
def prodInnersSpec : ChangeSpec := { name := "prodInners", fn := fun _ => fun
  | [d1, d2, d3, d4] => { results := [.lit (.bool true)], args := [d1, d2, d3, d4] }
  | _ => none }
def prodInnersRow : OpenClaim := { program := "ytiebknfmmanbiaadoor", sum := "670eb9deedf282f5e052c17f8c67c28162ab386122c028fc4f1c4ffcd2513229", func := "ravelin/ravelinlaw4.ProdInners", spec := "prodInners", inPlace := ["internal/reflectlite.ValueOf", "(internal/reflectlite.Value).Type", "(internal/reflectlite.Value).IsNil", "internal/reflectlite.TypeOf", "(internal/reflectlite.Value).Elem", "(internal/reflectlite.Value).Set"], unfollowed := true, recurses := true, named := ["errors.errorType"], apart := false, laid := [("errors.errorType", laid_errors_errorType)] }
def ProdInnersSaid : Prop := prodInnersRow.holds Tryd.pinned (OpenSpec.ofChange prodInnersSpec)

/-- ITS FALSE NEIGHBOUR: 'it returns false'. Refute it at one input. -/
def prodInnersWrong : ChangeSpec := { name := "prodInners", fn := fun _ => fun
  | [d1, d2, d3, d4] => { results := [.lit (.bool false)], args := [d1, d2, d3, d4] }
  | _ => none }
def ProdInnersWrongFalsely : Prop := prodInnersRow.holds Tryd.pinned (OpenSpec.ofChange prodInnersWrong)

/-- 'ravelinlaw4.MatrixBack': WHATEVER THE INPUT: true; the input reads as it did. -/
def matrixBackSpec : ChangeSpec := { name := "matrixBack", fn := fun _ => fun
  | [d] => { results := [.lit (.bool true)], args := [d] }
  | _ => none }
def matrixBackRow : OpenClaim := { program := "ytiebknfmmanbiaadoor", sum := "670eb9deedf282f5e052c17f8c67c28162ab386122c028fc4f1c4ffcd2513229", func := "ravelin/ravelinlaw4.MatrixBack", spec := "matrixBack", inPlace := ["internal/reflectlite.ValueOf", "(internal/reflectlite.Value).Type", "(internal/reflectlite.Value).IsNil", "internal/reflectlite.TypeOf", "(internal/reflectlite.Value).Elem", "(internal/reflectlite.Value).Set"], unfollowed := true, recurses := true, named := ["errors.errorType"], apart := false, laid := [("errors.errorType", laid_errors_errorType)] }
def MatrixBackSaid : Prop := matrixBackRow.holds Tryd.pinned (OpenSpec.ofChange matrixBackSpec)

/-- ITS FALSE NEIGHBOUR: 'it returns false'. Refute it at one input. -/
def matrixBackWrong : ChangeSpec := { name := "matrixBack", fn := fun _ => fun
  | [d] => { results := [.lit (.bool false)], args := [d] }
  | _ => none }
def MatrixBackWrongFalsely : Prop := matrixBackRow.holds Tryd.pinned (OpenSpec.ofChange matrixBackWrong)

/- THE SECOND FORM. 'bulk': how many values and letters a reading holds, each counted each time it is reached (what is shared counts as often as it is met; a slice's spare places count too). A statement '..UptoSaid' is the law's where the arguments, and the package variables that the reading takes, are together of bulk at most 1048576: NARROWER than '..Said'. Prove '..Said' where nothing that the law and all that it calls make is longer than what came in: it says more and counts as full. Else prove '..UptoSaid'. A law counts once. -/
mutual
def uptoBulk {H : Type} : DataW H → Nat
  | .lit (.string bytes) => bytes.length + 1
  | .lit _ => 1
  | .nil => 1
  | .ptr d => uptoBulk d + 1
  | .slice elems spare => uptoBulkAll elems + uptoBulkAll spare + 1
  | .agg parts => uptoBulkAll parts + 1
  | .iface _ d => uptoBulk d + 1
  | .map entries => uptoBulkEntries entries + 1
  | .held _ => 1
def uptoBulkAll {H : Type} : List (DataW H) → Nat
  | [] => 0
  | d :: r => uptoBulk d + uptoBulkAll r
def uptoBulkEntries {H : Type} : List (Lit × DataW H) → Nat
  | [] => 0
  | x :: r => uptoBulkEntry x + uptoBulkEntries r
def uptoBulkEntry {H : Type} : Lit × DataW H → Nat
  | (.string bytes, d) => bytes.length + uptoBulk d + 1
  | (_, d) => uptoBulk d + 1
 end
def uptoSmall : (H : Type) → List (DataW H) → Bool := fun _ ds => decide (uptoBulkAll ds ≤ 1048576)
def OpenSpec.upto (s : _root_.Go.ChangeSpec) : _root_.Go.OpenSpec := { _root_.Go.OpenSpec.ofChange s with cond := some uptoSmall }

/-- 'ravelinlaw1.ArrSpells', WHERE WHAT IT READS IS OF BULK AT MOST 1048576: true; the input reads as it did. -/
def arrSpellsUptoRow : OpenClaim := { program := "ytiebknfmmanbiaadoor", sum := "670eb9deedf282f5e052c17f8c67c28162ab386122c028fc4f1c4ffcd2513229", func := "ravelin/ravelinlaw1.ArrSpells", spec := "arrSpells", named := ["unicode/utf8.first", "unicode/utf8.acceptRanges"], apart := false, laid := [("unicode/utf8.acceptRanges", laid_unicode_utf8_acceptRanges), ("unicode/utf8.first", laid_unicode_utf8_first)], narrowed := true }
def ArrSpellsUptoSaid : Prop := arrSpellsUptoRow.holds Tryd.pinned (OpenSpec.upto arrSpellsSpec)

/-- 'ravelinlaw4.ReachNear', WHERE WHAT IT READS IS OF BULK AT MOST 1048576: true; the input reads as it did. -/
def reachNearUptoRow : OpenClaim := { program := "ytiebknfmmanbiaadoor", sum := "670eb9deedf282f5e052c17f8c67c28162ab386122c028fc4f1c4ffcd2513229", func := "ravelin/ravelinlaw4.ReachNear", spec := "reachNear", named := ["math/bits.deBruijn32tab"], apart := false, laid := [("math/bits.deBruijn32tab", laid_math_bits_deBruijn32tab)], narrowed := true }
def ReachNearUptoSaid : Prop := reachNearUptoRow.holds Tryd.pinned (OpenSpec.upto reachNearSpec)

/-- 'ravelinlaw1.ArrTexts', WHERE WHAT IT READS IS OF BULK AT MOST 1048576: true; the input reads as it did. -/
def arrTextsUptoRow : OpenClaim := { program := "ytiebknfmmanbiaadoor", sum := "670eb9deedf282f5e052c17f8c67c28162ab386122c028fc4f1c4ffcd2513229", func := "ravelin/ravelinlaw1.ArrTexts", spec := "arrTexts", inPlace := ["internal/reflectlite.ValueOf", "(internal/reflectlite.Value).Type", "(internal/reflectlite.Value).IsNil", "internal/reflectlite.TypeOf", "(internal/reflectlite.Value).Elem", "(internal/reflectlite.Value).Set"], unfollowed := true, recurses := true, named := ["unicode/utf8.first", "unicode/utf8.acceptRanges", "errors.errorType"], apart := false, laid := [("unicode/utf8.acceptRanges", laid_unicode_utf8_acceptRanges), ("errors.errorType", laid_errors_errorType), ("unicode/utf8.first", laid_unicode_utf8_first)], narrowed := true }
def ArrTextsUptoSaid : Prop := arrTextsUptoRow.holds Tryd.pinned (OpenSpec.upto arrTextsSpec)

/-- 'ravelinlaw1.ArrShapes', WHERE WHAT IT READS IS OF BULK AT MOST 1048576: true; the input reads as it did. -/
def arrShapesUptoRow : OpenClaim := { program := "ytiebknfmmanbiaadoor", sum := "670eb9deedf282f5e052c17f8c67c28162ab386122c028fc4f1c4ffcd2513229", func := "ravelin/ravelinlaw1.ArrShapes", spec := "arrShapes", inPlace := ["internal/reflectlite.ValueOf", "(internal/reflectlite.Value).Type", "(internal/reflectlite.Value).IsNil", "internal/reflectlite.TypeOf", "(internal/reflectlite.Value).Elem", "(internal/reflectlite.Value).Set"], unfollowed := true, recurses := true, named := ["errors.errorType"], apart := false, laid := [("errors.errorType", laid_errors_errorType)], narrowed := true }
def ArrShapesUptoSaid : Prop := arrShapesUptoRow.holds Tryd.pinned (OpenSpec.upto arrShapesSpec)

/-- 'ravelinlaw4.ReachOrders', WHERE WHAT IT READS IS OF BULK AT MOST 1048576: true; the input reads as it did. -/
def reachOrdersUptoRow : OpenClaim := { program := "ytiebknfmmanbiaadoor", sum := "670eb9deedf282f5e052c17f8c67c28162ab386122c028fc4f1c4ffcd2513229", func := "ravelin/ravelinlaw4.ReachOrders", spec := "reachOrders", inPlace := ["internal/reflectlite.ValueOf", "(internal/reflectlite.Value).Type", "(internal/reflectlite.Value).IsNil", "internal/reflectlite.TypeOf", "(internal/reflectlite.Value).Elem", "(internal/reflectlite.Value).Set"], unfollowed := true, recurses := true, named := ["errors.errorType"], apart := false, laid := [("errors.errorType", laid_errors_errorType)], narrowed := true }
def ReachOrdersUptoSaid : Prop := reachOrdersUptoRow.holds Tryd.pinned (OpenSpec.upto reachOrdersSpec)

/-- 'ravelinlaw1.EachOnes', WHERE WHAT IT READS IS OF BULK AT MOST 1048576: true; the input reads as it did. -/
def eachOnesUptoRow : OpenClaim := { program := "ytiebknfmmanbiaadoor", sum := "670eb9deedf282f5e052c17f8c67c28162ab386122c028fc4f1c4ffcd2513229", func := "ravelin/ravelinlaw1.EachOnes", spec := "eachOnes", inPlace := ["internal/reflectlite.ValueOf", "(internal/reflectlite.Value).Type", "(internal/reflectlite.Value).IsNil", "internal/reflectlite.TypeOf", "(internal/reflectlite.Value).Elem", "(internal/reflectlite.Value).Set"], unfollowed := true, recurses := true, named := ["errors.errorType"], apart := false, laid := [("errors.errorType", laid_errors_errorType)], narrowed := true }
def EachOnesUptoSaid : Prop := eachOnesUptoRow.holds Tryd.pinned (OpenSpec.upto eachOnesSpec)

/-- 'ravelinlaw4.ReachFars', WHERE WHAT IT READS IS OF BULK AT MOST 1048576: true; the input reads as it did. -/
def reachFarsUptoRow : OpenClaim := { program := "ytiebknfmmanbiaadoor", sum := "670eb9deedf282f5e052c17f8c67c28162ab386122c028fc4f1c4ffcd2513229", func := "ravelin/ravelinlaw4.ReachFars", spec := "reachFars", inPlace := ["internal/reflectlite.ValueOf", "(internal/reflectlite.Value).Type", "(internal/reflectlite.Value).IsNil", "internal/reflectlite.TypeOf", "(internal/reflectlite.Value).Elem", "(internal/reflectlite.Value).Set"], unfollowed := true, recurses := true, named := ["math/bits.deBruijn32tab", "errors.errorType"], apart := false, laid := [("math/bits.deBruijn32tab", laid_math_bits_deBruijn32tab), ("errors.errorType", laid_errors_errorType)], narrowed := true }
def ReachFarsUptoSaid : Prop := reachFarsUptoRow.holds Tryd.pinned (OpenSpec.upto reachFarsSpec)

/-- 'ravelinlaw4.MatrixPowers', WHERE WHAT IT READS IS OF BULK AT MOST 1048576: true; the input reads as it did. -/
def matrixPowersUptoRow : OpenClaim := { program := "ytiebknfmmanbiaadoor", sum := "670eb9deedf282f5e052c17f8c67c28162ab386122c028fc4f1c4ffcd2513229", func := "ravelin/ravelinlaw4.MatrixPowers", spec := "matrixPowers", inPlace := ["internal/reflectlite.ValueOf", "(internal/reflectlite.Value).Type", "(internal/reflectlite.Value).IsNil", "internal/reflectlite.TypeOf", "(internal/reflectlite.Value).Elem", "(internal/reflectlite.Value).Set"], unfollowed := true, recurses := true, named := ["errors.errorType"], apart := false, laid := [("errors.errorType", laid_errors_errorType)], narrowed := true }
def MatrixPowersUptoSaid : Prop := matrixPowersUptoRow.holds Tryd.pinned (OpenSpec.upto matrixPowersSpec)

/-- 'ravelinlaw4.ReachCloses', WHERE WHAT IT READS IS OF BULK AT MOST 1048576: true; the input reads as it did. -/
def reachClosesUptoRow : OpenClaim := { program := "ytiebknfmmanbiaadoor", sum := "670eb9deedf282f5e052c17f8c67c28162ab386122c028fc4f1c4ffcd2513229", func := "ravelin/ravelinlaw4.ReachCloses", spec := "reachCloses", inPlace := ["internal/reflectlite.ValueOf", "(internal/reflectlite.Value).Type", "(internal/reflectlite.Value).IsNil", "internal/reflectlite.TypeOf", "(internal/reflectlite.Value).Elem", "(internal/reflectlite.Value).Set"], unfollowed := true, recurses := true, named := ["errors.errorType"], apart := false, laid := [("errors.errorType", laid_errors_errorType)], narrowed := true }
def ReachClosesUptoSaid : Prop := reachClosesUptoRow.holds Tryd.pinned (OpenSpec.upto reachClosesSpec)

/-- 'ravelinlaw4.ReachAhead', WHERE WHAT IT READS IS OF BULK AT MOST 1048576: true; the input reads as it did. -/
def reachAheadUptoRow : OpenClaim := { program := "ytiebknfmmanbiaadoor", sum := "670eb9deedf282f5e052c17f8c67c28162ab386122c028fc4f1c4ffcd2513229", func := "ravelin/ravelinlaw4.ReachAhead", spec := "reachAhead", inPlace := ["internal/reflectlite.ValueOf", "(internal/reflectlite.Value).Type", "(internal/reflectlite.Value).IsNil", "internal/reflectlite.TypeOf", "(internal/reflectlite.Value).Elem", "(internal/reflectlite.Value).Set"], unfollowed := true, recurses := true, named := ["errors.errorType"], apart := false, laid := [("errors.errorType", laid_errors_errorType)], narrowed := true }
def ReachAheadUptoSaid : Prop := reachAheadUptoRow.holds Tryd.pinned (OpenSpec.upto reachAheadSpec)

/-- 'ravelinlaw4.MatrixDets', WHERE WHAT IT READS IS OF BULK AT MOST 1048576: true; the input reads as it did. -/
def matrixDetsUptoRow : OpenClaim := { program := "ytiebknfmmanbiaadoor", sum := "670eb9deedf282f5e052c17f8c67c28162ab386122c028fc4f1c4ffcd2513229", func := "ravelin/ravelinlaw4.MatrixDets", spec := "matrixDets", inPlace := ["internal/reflectlite.ValueOf", "(internal/reflectlite.Value).Type", "(internal/reflectlite.Value).IsNil", "internal/reflectlite.TypeOf", "(internal/reflectlite.Value).Elem", "(internal/reflectlite.Value).Set"], unfollowed := true, recurses := true, named := ["errors.errorType"], apart := false, laid := [("errors.errorType", laid_errors_errorType)], narrowed := true }
def MatrixDetsUptoSaid : Prop := matrixDetsUptoRow.holds Tryd.pinned (OpenSpec.upto matrixDetsSpec)

/-- 'ravelinlaw4.MatrixAdjugates', WHERE WHAT IT READS IS OF BULK AT MOST 1048576: true; the input reads as it did. -/
def matrixAdjugatesUptoRow : OpenClaim := { program := "ytiebknfmmanbiaadoor", sum := "670eb9deedf282f5e052c17f8c67c28162ab386122c028fc4f1c4ffcd2513229", func := "ravelin/ravelinlaw4.MatrixAdjugates", spec := "matrixAdjugates", inPlace := ["internal/reflectlite.ValueOf", "(internal/reflectlite.Value).Type", "(internal/reflectlite.Value).IsNil", "internal/reflectlite.TypeOf", "(internal/reflectlite.Value).Elem", "(internal/reflectlite.Value).Set"], unfollowed := true, recurses := true, named := ["errors.errorType"], apart := false, laid := [("errors.errorType", laid_errors_errorType)], narrowed := true }
def MatrixAdjugatesUptoSaid : Prop := matrixAdjugatesUptoRow.holds Tryd.pinned (OpenSpec.upto matrixAdjugatesSpec)

/-- 'ravelinlaw4.MatrixInverses', WHERE WHAT IT READS IS OF BULK AT MOST 1048576: true; the input reads as it did. -/
def matrixInversesUptoRow : OpenClaim := { program := "ytiebknfmmanbiaadoor", sum := "670eb9deedf282f5e052c17f8c67c28162ab386122c028fc4f1c4ffcd2513229", func := "ravelin/ravelinlaw4.MatrixInverses", spec := "matrixInverses", inPlace := ["internal/reflectlite.ValueOf", "(internal/reflectlite.Value).Type", "(internal/reflectlite.Value).IsNil", "internal/reflectlite.TypeOf", "(internal/reflectlite.Value).Elem", "(internal/reflectlite.Value).Set"], unfollowed := true, recurses := true, named := ["errors.errorType"], apart := false, laid := [("errors.errorType", laid_errors_errorType)], narrowed := true }
def MatrixInversesUptoSaid : Prop := matrixInversesUptoRow.holds Tryd.pinned (OpenSpec.upto matrixInversesSpec)

/-- 'ravelinlaw1.EachTwos', WHERE WHAT IT READS IS OF BULK AT MOST 1048576: true; the input reads as it did. -/
def eachTwosUptoRow : OpenClaim := { program := "ytiebknfmmanbiaadoor", sum := "670eb9deedf282f5e052c17f8c67c28162ab386122c028fc4f1c4ffcd2513229", func := "ravelin/ravelinlaw1.EachTwos", spec := "eachTwos", inPlace := ["internal/reflectlite.ValueOf", "(internal/reflectlite.Value).Type", "(internal/reflectlite.Value).IsNil", "internal/reflectlite.TypeOf", "(internal/reflectlite.Value).Elem", "(internal/reflectlite.Value).Set"], unfollowed := true, recurses := true, named := ["errors.errorType"], apart := false, laid := [("errors.errorType", laid_errors_errorType)], narrowed := true }
def EachTwosUptoSaid : Prop := eachTwosUptoRow.holds Tryd.pinned (OpenSpec.upto eachTwosSpec)

/-- 'ravelinlaw4.ProdOuters', WHERE WHAT IT READS IS OF BULK AT MOST 1048576: true; the input reads as it did. -/
def prodOutersUptoRow : OpenClaim := { program := "ytiebknfmmanbiaadoor", sum := "670eb9deedf282f5e052c17f8c67c28162ab386122c028fc4f1c4ffcd2513229", func := "ravelin/ravelinlaw4.ProdOuters", spec := "prodOuters", inPlace := ["internal/reflectlite.ValueOf", "(internal/reflectlite.Value).Type", "(internal/reflectlite.Value).IsNil", "internal/reflectlite.TypeOf", "(internal/reflectlite.Value).Elem", "(internal/reflectlite.Value).Set"], unfollowed := true, recurses := true, named := ["errors.errorType"], apart := false, laid := [("errors.errorType", laid_errors_errorType)], narrowed := true }
def ProdOutersUptoSaid : Prop := prodOutersUptoRow.holds Tryd.pinned (OpenSpec.upto prodOutersSpec)

/-- 'ravelinlaw4.ProdInners', WHERE WHAT IT READS IS OF BULK AT MOST 1048576: true; the input reads as it did. -/
def prodInnersUptoRow : OpenClaim := { program := "ytiebknfmmanbiaadoor", sum := "670eb9deedf282f5e052c17f8c67c28162ab386122c028fc4f1c4ffcd2513229", func := "ravelin/ravelinlaw4.ProdInners", spec := "prodInners", inPlace := ["internal/reflectlite.ValueOf", "(internal/reflectlite.Value).Type", "(internal/reflectlite.Value).IsNil", "internal/reflectlite.TypeOf", "(internal/reflectlite.Value).Elem", "(internal/reflectlite.Value).Set"], unfollowed := true, recurses := true, named := ["errors.errorType"], apart := false, laid := [("errors.errorType", laid_errors_errorType)], narrowed := true }
def ProdInnersUptoSaid : Prop := prodInnersUptoRow.holds Tryd.pinned (OpenSpec.upto prodInnersSpec)

/-- 'ravelinlaw4.MatrixBack', WHERE WHAT IT READS IS OF BULK AT MOST 1048576: true; the input reads as it did. -/
def matrixBackUptoRow : OpenClaim := { program := "ytiebknfmmanbiaadoor", sum := "670eb9deedf282f5e052c17f8c67c28162ab386122c028fc4f1c4ffcd2513229", func := "ravelin/ravelinlaw4.MatrixBack", spec := "matrixBack", inPlace := ["internal/reflectlite.ValueOf", "(internal/reflectlite.Value).Type", "(internal/reflectlite.Value).IsNil", "internal/reflectlite.TypeOf", "(internal/reflectlite.Value).Elem", "(internal/reflectlite.Value).Set"], unfollowed := true, recurses := true, named := ["errors.errorType"], apart := false, laid := [("errors.errorType", laid_errors_errorType)], narrowed := true }
def MatrixBackUptoSaid : Prop := matrixBackUptoRow.holds Tryd.pinned (OpenSpec.upto matrixBackSpec)

end Rows
end Go.Proofs.YtiebknfmmanbiaaDoor
