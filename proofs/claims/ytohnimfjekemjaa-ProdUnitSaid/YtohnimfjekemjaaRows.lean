/-
  No cell of these rows narrows 'for every input' (looked for: loops, veiled, ifaces, maps, wideKeys, modest, calm, conditions, laid).
  DERIVED. THE GIVEN ROWS OF THIS SEAT. 14 by the template 'for every input the law returns true; each argument reads behind the call as it read before'; 0 by the template 'total and deterministic' (their statements: YtohnimfjekemjaaTotals.lean).
  GIVEN WITH THE SEED: the statements are not yours to turn. If you find one false, say at which input.
  Laid BY PROGRAM, IN A SANDBOX (cutbox-rows.mjs): the forced cells as the released guide's own fill.sh prints them over the translation 7fa890aed04e4897… (all of the seat's roots in one cut). By AI agents, Wed Nov 11 2026. No macro, syntax, notation, axiom, sorry.
-/
import Derived.Test.YtohnimfjekemjaaChecked
import GoSem.Claim
import GoSem.ClaimJoined
import GoSem.ClaimMapViews
import Derived.JoinedTies
import Derived.KernelRfl
namespace Go.Proofs.Ytohnimfjekemjaa
/- THE CELL 'sum', in the pinned program and in every row, IS THE sha256 OF THE DUMP (.gsa) THAT YtohnimfjekemjaaProg.lean LOADS. Nothing in Lean hashes anything: it is a label: what it is worth is what the hold of that sum in a sandbox is worth. -/
noncomputable def Try.pinned : Pinned := { name := "ytohnimfjekemjaa", sum := "7fa890aed04e489706b226f13fe606bea4a1632df1425f727f6619bcaf292497", checked := Try.checked }
namespace Rows
def none {H : Type} : Left H := { results := [], args := [] }

/-- 'ravelinlaw4.MatrixSwaps': WHATEVER THE INPUT: true; the input reads as it did. -/
def matrixSwapsSpec : ChangeSpec := { name := "matrixSwaps", fn := fun _ => fun
  | [d1, d2, d3] => { results := [.lit (.bool true)], args := [d1, d2, d3] }
  | _ => none }
def matrixSwapsRow : OpenClaim := { program := "ytohnimfjekemjaa", sum := "7fa890aed04e489706b226f13fe606bea4a1632df1425f727f6619bcaf292497", func := "ravelin/ravelinlaw4.MatrixSwaps", spec := "matrixSwaps", apart := false }
def MatrixSwapsSaid : Prop := matrixSwapsRow.holds Try.pinned (OpenSpec.ofChange matrixSwapsSpec)

/-- ITS FALSE NEIGHBOUR: 'it returns false'. Refute it at one input. -/
def matrixSwapsWrong : ChangeSpec := { name := "matrixSwaps", fn := fun _ => fun
  | [d1, d2, d3] => { results := [.lit (.bool false)], args := [d1, d2, d3] }
  | _ => none }
def MatrixSwapsWrongFalsely : Prop := matrixSwapsRow.holds Try.pinned (OpenSpec.ofChange matrixSwapsWrong)

/-- 'ravelinlaw4.MatrixRows': WHATEVER THE INPUT: true; the input reads as it did. -/
def matrixRowsSpec : ChangeSpec := { name := "matrixRows", fn := fun _ => fun
  | [d1, d2, d3, d4] => { results := [.lit (.bool true)], args := [d1, d2, d3, d4] }
  | _ => none }
def matrixRowsRow : OpenClaim := { program := "ytohnimfjekemjaa", sum := "7fa890aed04e489706b226f13fe606bea4a1632df1425f727f6619bcaf292497", func := "ravelin/ravelinlaw4.MatrixRows", spec := "matrixRows", apart := false }
def MatrixRowsSaid : Prop := matrixRowsRow.holds Try.pinned (OpenSpec.ofChange matrixRowsSpec)

/-- ITS FALSE NEIGHBOUR: 'it returns false'. Refute it at one input. -/
def matrixRowsWrong : ChangeSpec := { name := "matrixRows", fn := fun _ => fun
  | [d1, d2, d3, d4] => { results := [.lit (.bool false)], args := [d1, d2, d3, d4] }
  | _ => none }
def MatrixRowsWrongFalsely : Prop := matrixRowsRow.holds Try.pinned (OpenSpec.ofChange matrixRowsWrong)

/-- 'ravelinlaw4.MatrixHamilton': WHATEVER THE INPUT: true; the input reads as it did. -/
def matrixHamiltonSpec : ChangeSpec := { name := "matrixHamilton", fn := fun _ => fun
  | [d] => { results := [.lit (.bool true)], args := [d] }
  | _ => none }
def matrixHamiltonRow : OpenClaim := { program := "ytohnimfjekemjaa", sum := "7fa890aed04e489706b226f13fe606bea4a1632df1425f727f6619bcaf292497", func := "ravelin/ravelinlaw4.MatrixHamilton", spec := "matrixHamilton", apart := false }
def MatrixHamiltonSaid : Prop := matrixHamiltonRow.holds Try.pinned (OpenSpec.ofChange matrixHamiltonSpec)

/-- ITS FALSE NEIGHBOUR: 'it returns false'. Refute it at one input. -/
def matrixHamiltonWrong : ChangeSpec := { name := "matrixHamilton", fn := fun _ => fun
  | [d] => { results := [.lit (.bool false)], args := [d] }
  | _ => none }
def MatrixHamiltonWrongFalsely : Prop := matrixHamiltonRow.holds Try.pinned (OpenSpec.ofChange matrixHamiltonWrong)

/-- 'ravelinlaw4.MatrixTurned': WHATEVER THE INPUT: true; the input reads as it did. -/
def matrixTurnedSpec : ChangeSpec := { name := "matrixTurned", fn := fun _ => fun
  | [d] => { results := [.lit (.bool true)], args := [d] }
  | _ => none }
def matrixTurnedRow : OpenClaim := { program := "ytohnimfjekemjaa", sum := "7fa890aed04e489706b226f13fe606bea4a1632df1425f727f6619bcaf292497", func := "ravelin/ravelinlaw4.MatrixTurned", spec := "matrixTurned", apart := false }
def MatrixTurnedSaid : Prop := matrixTurnedRow.holds Try.pinned (OpenSpec.ofChange matrixTurnedSpec)

/-- ITS FALSE NEIGHBOUR: 'it returns false'. Refute it at one input. -/
def matrixTurnedWrong : ChangeSpec := { name := "matrixTurned", fn := fun _ => fun
  | [d] => { results := [.lit (.bool false)], args := [d] }
  | _ => none }
def MatrixTurnedWrongFalsely : Prop := matrixTurnedRow.holds Try.pinned (OpenSpec.ofChange matrixTurnedWrong)

/-- 'ravelinlaw4.ProdChain': WHATEVER THE INPUT: true; the input reads as it did. -/
def prodChainSpec : ChangeSpec := { name := "prodChain", fn := fun _ => fun
  | [d1, d2, d3, d4, d5] => { results := [.lit (.bool true)], args := [d1, d2, d3, d4, d5] }
  | _ => none }
def prodChainRow : OpenClaim := { program := "ytohnimfjekemjaa", sum := "7fa890aed04e489706b226f13fe606bea4a1632df1425f727f6619bcaf292497", func := "ravelin/ravelinlaw4.ProdChain", spec := "prodChain", unfollowed := true, recurses := true, apart := false }
def ProdChainSaid : Prop := prodChainRow.holds Try.pinned (OpenSpec.ofChange prodChainSpec)

/-- ITS FALSE NEIGHBOUR: 'it returns false'. Refute it at one input. -/
def prodChainWrong : ChangeSpec := { name := "prodChain", fn := fun _ => fun
  | [d1, d2, d3, d4, d5] => { results := [.lit (.bool false)], args := [d1, d2, d3, d4, d5] }
  | _ => none }
def ProdChainWrongFalsely : Prop := prodChainRow.holds Try.pinned (OpenSpec.ofChange prodChainWrong)

/-- 'ravelinlaw4.ProdUnit': WHATEVER THE INPUT: true; the input reads as it did. -/
def prodUnitSpec : ChangeSpec := { name := "prodUnit", fn := fun _ => fun
  | [d] => { results := [.lit (.bool true)], args := [d] }
  | _ => none }
def prodUnitRow : OpenClaim := { program := "ytohnimfjekemjaa", sum := "7fa890aed04e489706b226f13fe606bea4a1632df1425f727f6619bcaf292497", func := "ravelin/ravelinlaw4.ProdUnit", spec := "prodUnit", unfollowed := true, recurses := true, apart := false }
def ProdUnitSaid : Prop := prodUnitRow.holds Try.pinned (OpenSpec.ofChange prodUnitSpec)

/-- ITS FALSE NEIGHBOUR: 'it returns false'. Refute it at one input. -/
def prodUnitWrong : ChangeSpec := { name := "prodUnit", fn := fun _ => fun
  | [d] => { results := [.lit (.bool false)], args := [d] }
  | _ => none }
def ProdUnitWrongFalsely : Prop := prodUnitRow.holds Try.pinned (OpenSpec.ofChange prodUnitWrong)

/-- 'ravelinlaw4.ProdTurned': WHATEVER THE INPUT: true; the input reads as it did. -/
def prodTurnedSpec : ChangeSpec := { name := "prodTurned", fn := fun _ => fun
  | [d1, d2, d3, d4] => { results := [.lit (.bool true)], args := [d1, d2, d3, d4] }
  | _ => none }
def prodTurnedRow : OpenClaim := { program := "ytohnimfjekemjaa", sum := "7fa890aed04e489706b226f13fe606bea4a1632df1425f727f6619bcaf292497", func := "ravelin/ravelinlaw4.ProdTurned", spec := "prodTurned", unfollowed := true, recurses := true, apart := false }
def ProdTurnedSaid : Prop := prodTurnedRow.holds Try.pinned (OpenSpec.ofChange prodTurnedSpec)

/-- ITS FALSE NEIGHBOUR: 'it returns false'. Refute it at one input. -/
def prodTurnedWrong : ChangeSpec := { name := "prodTurned", fn := fun _ => fun
  | [d1, d2, d3, d4] => { results := [.lit (.bool false)], args := [d1, d2, d3, d4] }
  | _ => none }
def ProdTurnedWrongFalsely : Prop := prodTurnedRow.holds Try.pinned (OpenSpec.ofChange prodTurnedWrong)

/-- 'ravelinlaw4.MatrixMany': WHATEVER THE INPUT: true; the input reads as it did. -/
def matrixManySpec : ChangeSpec := { name := "matrixMany", fn := fun _ => fun
  | [d1, d2] => { results := [.lit (.bool true)], args := [d1, d2] }
  | _ => none }
def matrixManyRow : OpenClaim := { program := "ytohnimfjekemjaa", sum := "7fa890aed04e489706b226f13fe606bea4a1632df1425f727f6619bcaf292497", func := "ravelin/ravelinlaw4.MatrixMany", spec := "matrixMany", unfollowed := true, recurses := true, apart := false }
def MatrixManySaid : Prop := matrixManyRow.holds Try.pinned (OpenSpec.ofChange matrixManySpec)

/-- ITS FALSE NEIGHBOUR: 'it returns false'. Refute it at one input. -/
def matrixManyWrong : ChangeSpec := { name := "matrixMany", fn := fun _ => fun
  | [d1, d2] => { results := [.lit (.bool false)], args := [d1, d2] }
  | _ => none }
def MatrixManyWrongFalsely : Prop := matrixManyRow.holds Try.pinned (OpenSpec.ofChange matrixManyWrong)

/-- 'ravelinlaw4.ProdSums': WHATEVER THE INPUT: true; the input reads as it did. -/
def prodSumsSpec : ChangeSpec := { name := "prodSums", fn := fun _ => fun
  | [d1, d2, d3] => { results := [.lit (.bool true)], args := [d1, d2, d3] }
  | _ => none }
def prodSumsRow : OpenClaim := { program := "ytohnimfjekemjaa", sum := "7fa890aed04e489706b226f13fe606bea4a1632df1425f727f6619bcaf292497", func := "ravelin/ravelinlaw4.ProdSums", spec := "prodSums", unfollowed := true, recurses := true, apart := false }
def ProdSumsSaid : Prop := prodSumsRow.holds Try.pinned (OpenSpec.ofChange prodSumsSpec)

/-- ITS FALSE NEIGHBOUR: 'it returns false'. Refute it at one input. -/
def prodSumsWrong : ChangeSpec := { name := "prodSums", fn := fun _ => fun
  | [d1, d2, d3] => { results := [.lit (.bool false)], args := [d1, d2, d3] }
  | _ => none }
def ProdSumsWrongFalsely : Prop := prodSumsRow.holds Try.pinned (OpenSpec.ofChange prodSumsWrong)

/-- 'ravelinlaw4.MatrixSylvester': WHATEVER THE INPUT: true; the input reads as it did. -/
def matrixSylvesterSpec : ChangeSpec := { name := "matrixSylvester", fn := fun _ => fun
  | [d1, d2] => { results := [.lit (.bool true)], args := [d1, d2] }
  | _ => none }
def matrixSylvesterRow : OpenClaim := { program := "ytohnimfjekemjaa", sum := "7fa890aed04e489706b226f13fe606bea4a1632df1425f727f6619bcaf292497", func := "ravelin/ravelinlaw4.MatrixSylvester", spec := "matrixSylvester", unfollowed := true, recurses := true, apart := false }
def MatrixSylvesterSaid : Prop := matrixSylvesterRow.holds Try.pinned (OpenSpec.ofChange matrixSylvesterSpec)

/-- ITS FALSE NEIGHBOUR: 'it returns false'. Refute it at one input. -/
def matrixSylvesterWrong : ChangeSpec := { name := "matrixSylvester", fn := fun _ => fun
  | [d1, d2] => { results := [.lit (.bool false)], args := [d1, d2] }
  | _ => none }
def MatrixSylvesterWrongFalsely : Prop := matrixSylvesterRow.holds Try.pinned (OpenSpec.ofChange matrixSylvesterWrong)

/-- 'ravelinlaw4.MatrixTimes': WHATEVER THE INPUT: true; the input reads as it did. -/
def matrixTimesSpec : ChangeSpec := { name := "matrixTimes", fn := fun _ => fun
  | [d1, d2, d3] => { results := [.lit (.bool true)], args := [d1, d2, d3] }
  | _ => none }
def matrixTimesRow : OpenClaim := { program := "ytohnimfjekemjaa", sum := "7fa890aed04e489706b226f13fe606bea4a1632df1425f727f6619bcaf292497", func := "ravelin/ravelinlaw4.MatrixTimes", spec := "matrixTimes", unfollowed := true, recurses := true, apart := false }
def MatrixTimesSaid : Prop := matrixTimesRow.holds Try.pinned (OpenSpec.ofChange matrixTimesSpec)

/-- ITS FALSE NEIGHBOUR: 'it returns false'. Refute it at one input. -/
def matrixTimesWrong : ChangeSpec := { name := "matrixTimes", fn := fun _ => fun
  | [d1, d2, d3] => { results := [.lit (.bool false)], args := [d1, d2, d3] }
  | _ => none }
def MatrixTimesWrongFalsely : Prop := matrixTimesRow.holds Try.pinned (OpenSpec.ofChange matrixTimesWrong)

/-- 'ravelinlaw4.MatrixAdjoint': WHATEVER THE INPUT: true; the input reads as it did. -/
def matrixAdjointSpec : ChangeSpec := { name := "matrixAdjoint", fn := fun _ => fun
  | [d] => { results := [.lit (.bool true)], args := [d] }
  | _ => none }
def matrixAdjointRow : OpenClaim := { program := "ytohnimfjekemjaa", sum := "7fa890aed04e489706b226f13fe606bea4a1632df1425f727f6619bcaf292497", func := "ravelin/ravelinlaw4.MatrixAdjoint", spec := "matrixAdjoint", unfollowed := true, recurses := true, apart := false }
def MatrixAdjointSaid : Prop := matrixAdjointRow.holds Try.pinned (OpenSpec.ofChange matrixAdjointSpec)

/-- ITS FALSE NEIGHBOUR: 'it returns false'. Refute it at one input. -/
def matrixAdjointWrong : ChangeSpec := { name := "matrixAdjoint", fn := fun _ => fun
  | [d] => { results := [.lit (.bool false)], args := [d] }
  | _ => none }
def MatrixAdjointWrongFalsely : Prop := matrixAdjointRow.holds Try.pinned (OpenSpec.ofChange matrixAdjointWrong)

/-- 'ravelinlaw4.ProdLines': WHATEVER THE INPUT: true; the input reads as it did. -/
def prodLinesSpec : ChangeSpec := { name := "prodLines", fn := fun _ => fun
  | [d1, d2, d3, d4] => { results := [.lit (.bool true)], args := [d1, d2, d3, d4] }
  | _ => none }
def prodLinesRow : OpenClaim := { program := "ytohnimfjekemjaa", sum := "7fa890aed04e489706b226f13fe606bea4a1632df1425f727f6619bcaf292497", func := "ravelin/ravelinlaw4.ProdLines", spec := "prodLines", unfollowed := true, recurses := true, apart := false }
def ProdLinesSaid : Prop := prodLinesRow.holds Try.pinned (OpenSpec.ofChange prodLinesSpec)

/-- ITS FALSE NEIGHBOUR: 'it returns false'. Refute it at one input. -/
def prodLinesWrong : ChangeSpec := { name := "prodLines", fn := fun _ => fun
  | [d1, d2, d3, d4] => { results := [.lit (.bool false)], args := [d1, d2, d3, d4] }
  | _ => none }
def ProdLinesWrongFalsely : Prop := prodLinesRow.holds Try.pinned (OpenSpec.ofChange prodLinesWrong)

/-- 'ravelinlaw4.ProdParts': WHATEVER THE INPUT: true; the input reads as it did. -/
def prodPartsSpec : ChangeSpec := { name := "prodParts", fn := fun _ => fun
  | [d1, d2, d3, d4] => { results := [.lit (.bool true)], args := [d1, d2, d3, d4] }
  | _ => none }
def prodPartsRow : OpenClaim := { program := "ytohnimfjekemjaa", sum := "7fa890aed04e489706b226f13fe606bea4a1632df1425f727f6619bcaf292497", func := "ravelin/ravelinlaw4.ProdParts", spec := "prodParts", unfollowed := true, recurses := true, apart := false }
def ProdPartsSaid : Prop := prodPartsRow.holds Try.pinned (OpenSpec.ofChange prodPartsSpec)

/-- ITS FALSE NEIGHBOUR: 'it returns false'. Refute it at one input. -/
def prodPartsWrong : ChangeSpec := { name := "prodParts", fn := fun _ => fun
  | [d1, d2, d3, d4] => { results := [.lit (.bool false)], args := [d1, d2, d3, d4] }
  | _ => none }
def ProdPartsWrongFalsely : Prop := prodPartsRow.holds Try.pinned (OpenSpec.ofChange prodPartsWrong)

/- THE SECOND FORM. 'bulk': how many values and letters a reading holds, each counted each time it is reached (what is shared counts as often as it is met; a slice's spare places count too). A statement '..UptoSaid' is the law's where the arguments, and the package variables that the reading takes, are together of bulk at most 1048576: NARROWER than '..Said'. Prove '..Said' where nothing that the law and all that it calls make is longer than what came in: it says more and counts as full. Else prove '..UptoSaid'. A law counts once. -/
mutual
def uptoBulk {H : Type} : DataW H → Nat
  | .lit (.string bytes) => bytes.length + 1
  | .lit _ => 1
  | .nil => 1
  | .ptr d => uptoBulk d + 1
  | .slice elems spare => uptoBulkAll elems + uptoBulkAll spare + 1
  | .agg parts => uptoBulkAll parts + 1
  | .iface _ d => uptoBulk d + 1
  | .map entries => uptoBulkEntries entries + 1
  | .held _ => 1
def uptoBulkAll {H : Type} : List (DataW H) → Nat
  | [] => 0
  | d :: r => uptoBulk d + uptoBulkAll r
def uptoBulkEntries {H : Type} : List (Lit × DataW H) → Nat
  | [] => 0
  | x :: r => uptoBulkEntry x + uptoBulkEntries r
def uptoBulkEntry {H : Type} : Lit × DataW H → Nat
  | (.string bytes, d) => bytes.length + uptoBulk d + 1
  | (_, d) => uptoBulk d + 1
 end
def uptoSmall : (H : Type) → List (DataW H) → Bool := fun _ ds => decide (uptoBulkAll ds ≤ 1048576)
def OpenSpec.upto (s : _root_.Go.ChangeSpec) : _root_.Go.OpenSpec := { _root_.Go.OpenSpec.ofChange s with cond := some uptoSmall }

/-- 'ravelinlaw4.MatrixSwaps', WHERE WHAT IT READS IS OF BULK AT MOST 1048576: true; the input reads as it did. -/
def matrixSwapsUptoRow : OpenClaim := { program := "ytohnimfjekemjaa", sum := "7fa890aed04e489706b226f13fe606bea4a1632df1425f727f6619bcaf292497", func := "ravelin/ravelinlaw4.MatrixSwaps", spec := "matrixSwaps", apart := false, narrowed := true }
def MatrixSwapsUptoSaid : Prop := matrixSwapsUptoRow.holds Try.pinned (OpenSpec.upto matrixSwapsSpec)

/-- 'ravelinlaw4.MatrixRows', WHERE WHAT IT READS IS OF BULK AT MOST 1048576: true; the input reads as it did. -/
def matrixRowsUptoRow : OpenClaim := { program := "ytohnimfjekemjaa", sum := "7fa890aed04e489706b226f13fe606bea4a1632df1425f727f6619bcaf292497", func := "ravelin/ravelinlaw4.MatrixRows", spec := "matrixRows", apart := false, narrowed := true }
def MatrixRowsUptoSaid : Prop := matrixRowsUptoRow.holds Try.pinned (OpenSpec.upto matrixRowsSpec)

/-- 'ravelinlaw4.MatrixHamilton', WHERE WHAT IT READS IS OF BULK AT MOST 1048576: true; the input reads as it did. -/
def matrixHamiltonUptoRow : OpenClaim := { program := "ytohnimfjekemjaa", sum := "7fa890aed04e489706b226f13fe606bea4a1632df1425f727f6619bcaf292497", func := "ravelin/ravelinlaw4.MatrixHamilton", spec := "matrixHamilton", apart := false, narrowed := true }
def MatrixHamiltonUptoSaid : Prop := matrixHamiltonUptoRow.holds Try.pinned (OpenSpec.upto matrixHamiltonSpec)

/-- 'ravelinlaw4.MatrixTurned', WHERE WHAT IT READS IS OF BULK AT MOST 1048576: true; the input reads as it did. -/
def matrixTurnedUptoRow : OpenClaim := { program := "ytohnimfjekemjaa", sum := "7fa890aed04e489706b226f13fe606bea4a1632df1425f727f6619bcaf292497", func := "ravelin/ravelinlaw4.MatrixTurned", spec := "matrixTurned", apart := false, narrowed := true }
def MatrixTurnedUptoSaid : Prop := matrixTurnedUptoRow.holds Try.pinned (OpenSpec.upto matrixTurnedSpec)

/-- 'ravelinlaw4.ProdChain', WHERE WHAT IT READS IS OF BULK AT MOST 1048576: true; the input reads as it did. -/
def prodChainUptoRow : OpenClaim := { program := "ytohnimfjekemjaa", sum := "7fa890aed04e489706b226f13fe606bea4a1632df1425f727f6619bcaf292497", func := "ravelin/ravelinlaw4.ProdChain", spec := "prodChain", unfollowed := true, recurses := true, apart := false, narrowed := true }
def ProdChainUptoSaid : Prop := prodChainUptoRow.holds Try.pinned (OpenSpec.upto prodChainSpec)

/-- 'ravelinlaw4.ProdUnit', WHERE WHAT IT READS IS OF BULK AT MOST 1048576: true; the input reads as it did. -/
def prodUnitUptoRow : OpenClaim := { program := "ytohnimfjekemjaa", sum := "7fa890aed04e489706b226f13fe606bea4a1632df1425f727f6619bcaf292497", func := "ravelin/ravelinlaw4.ProdUnit", spec := "prodUnit", unfollowed := true, recurses := true, apart := false, narrowed := true }
def ProdUnitUptoSaid : Prop := prodUnitUptoRow.holds Try.pinned (OpenSpec.upto prodUnitSpec)

/-- 'ravelinlaw4.ProdTurned', WHERE WHAT IT READS IS OF BULK AT MOST 1048576: true; the input reads as it did. -/
def prodTurnedUptoRow : OpenClaim := { program := "ytohnimfjekemjaa", sum := "7fa890aed04e489706b226f13fe606bea4a1632df1425f727f6619bcaf292497", func := "ravelin/ravelinlaw4.ProdTurned", spec := "prodTurned", unfollowed := true, recurses := true, apart := false, narrowed := true }
def ProdTurnedUptoSaid : Prop := prodTurnedUptoRow.holds Try.pinned (OpenSpec.upto prodTurnedSpec)

/-- 'ravelinlaw4.MatrixMany', WHERE WHAT IT READS IS OF BULK AT MOST 1048576: true; the input reads as it did. -/
def matrixManyUptoRow : OpenClaim := { program := "ytohnimfjekemjaa", sum := "7fa890aed04e489706b226f13fe606bea4a1632df1425f727f6619bcaf292497", func := "ravelin/ravelinlaw4.MatrixMany", spec := "matrixMany", unfollowed := true, recurses := true, apart := false, narrowed := true }
def MatrixManyUptoSaid : Prop := matrixManyUptoRow.holds Try.pinned (OpenSpec.upto matrixManySpec)

/-- 'ravelinlaw4.ProdSums', WHERE WHAT IT READS IS OF BULK AT MOST 1048576: true; the input reads as it did. -/
def prodSumsUptoRow : OpenClaim := { program := "ytohnimfjekemjaa", sum := "7fa890aed04e489706b226f13fe606bea4a1632df1425f727f6619bcaf292497", func := "ravelin/ravelinlaw4.ProdSums", spec := "prodSums", unfollowed := true, recurses := true, apart := false, narrowed := true }
def ProdSumsUptoSaid : Prop := prodSumsUptoRow.holds Try.pinned (OpenSpec.upto prodSumsSpec)

/-- 'ravelinlaw4.MatrixSylvester', WHERE WHAT IT READS IS OF BULK AT MOST 1048576: true; the input reads as it did. -/
def matrixSylvesterUptoRow : OpenClaim := { program := "ytohnimfjekemjaa", sum := "7fa890aed04e489706b226f13fe606bea4a1632df1425f727f6619bcaf292497", func := "ravelin/ravelinlaw4.MatrixSylvester", spec := "matrixSylvester", unfollowed := true, recurses := true, apart := false, narrowed := true }
def MatrixSylvesterUptoSaid : Prop := matrixSylvesterUptoRow.holds Try.pinned (OpenSpec.upto matrixSylvesterSpec)

/-- 'ravelinlaw4.MatrixTimes', WHERE WHAT IT READS IS OF BULK AT MOST 1048576: true; the input reads as it did. -/
def matrixTimesUptoRow : OpenClaim := { program := "ytohnimfjekemjaa", sum := "7fa890aed04e489706b226f13fe606bea4a1632df1425f727f6619bcaf292497", func := "ravelin/ravelinlaw4.MatrixTimes", spec := "matrixTimes", unfollowed := true, recurses := true, apart := false, narrowed := true }
def MatrixTimesUptoSaid : Prop := matrixTimesUptoRow.holds Try.pinned (OpenSpec.upto matrixTimesSpec)

/-- 'ravelinlaw4.MatrixAdjoint', WHERE WHAT IT READS IS OF BULK AT MOST 1048576: true; the input reads as it did. -/
def matrixAdjointUptoRow : OpenClaim := { program := "ytohnimfjekemjaa", sum := "7fa890aed04e489706b226f13fe606bea4a1632df1425f727f6619bcaf292497", func := "ravelin/ravelinlaw4.MatrixAdjoint", spec := "matrixAdjoint", unfollowed := true, recurses := true, apart := false, narrowed := true }
def MatrixAdjointUptoSaid : Prop := matrixAdjointUptoRow.holds Try.pinned (OpenSpec.upto matrixAdjointSpec)

/-- 'ravelinlaw4.ProdLines', WHERE WHAT IT READS IS OF BULK AT MOST 1048576: true; the input reads as it did. -/
def prodLinesUptoRow : OpenClaim := { program := "ytohnimfjekemjaa", sum := "7fa890aed04e489706b226f13fe606bea4a1632df1425f727f6619bcaf292497", func := "ravelin/ravelinlaw4.ProdLines", spec := "prodLines", unfollowed := true, recurses := true, apart := false, narrowed := true }
def ProdLinesUptoSaid : Prop := prodLinesUptoRow.holds Try.pinned (OpenSpec.upto prodLinesSpec)

/-- 'ravelinlaw4.ProdParts', WHERE WHAT IT READS IS OF BULK AT MOST 1048576: true; the input reads as it did. -/
def prodPartsUptoRow : OpenClaim := { program := "ytohnimfjekemjaa", sum := "7fa890aed04e489706b226f13fe606bea4a1632df1425f727f6619bcaf292497", func := "ravelin/ravelinlaw4.ProdParts", spec := "prodParts", unfollowed := true, recurses := true, apart := false, narrowed := true }
def ProdPartsUptoSaid : Prop := prodPartsUptoRow.holds Try.pinned (OpenSpec.upto prodPartsSpec)

end Rows
end Go.Proofs.Ytohnimfjekemjaa
