/-
  No cell of these rows narrows 'for every input' (looked for: loops, veiled, ifaces, maps, wideKeys, modest, calm, conditions, laid).
  DERIVED. THE GIVEN ROWS OF THIS SEAT. 8 by the template 'for every input the law returns true; each argument reads behind the call as it read before'; 0 by the template 'total and deterministic' (their statements: YtiebknfmmanbiaaTotals.lean).
  GIVEN WITH THE SEED: the statements are not yours to turn. If you find one false, say at which input.
  Laid BY PROGRAM, IN A SANDBOX (cutbox-rows.mjs): the forced cells as the released guide's own fill.sh prints them over the translation 949c80ffc6a33bb4… (all of the seat's roots in one cut). By AI agents, Wed Nov 11 2026. No macro, syntax, notation, axiom, sorry.
-/
import Derived.Test.YtiebknfmmanbiaaChecked
import GoSem.Claim
import GoSem.ClaimJoined
import GoSem.ClaimMapViews
import Derived.JoinedTies
import Derived.KernelRfl
namespace Go.Proofs.Ytiebknfmmanbiaa
/- THE CELL 'sum', in the pinned program and in every row, IS THE sha256 OF THE DUMP (.gsa) THAT YtiebknfmmanbiaaProg.lean LOADS. Nothing in Lean hashes anything: it is a label: what it is worth is what the hold of that sum in a sandbox is worth. -/
noncomputable def Try.pinned : Pinned := { name := "ytiebknfmmanbiaa", sum := "949c80ffc6a33bb4dc77ada1dfdd96f552a1bdc7e8f3e44b44cc6afec792b82c", checked := Try.checked }
namespace Rows
def none {H : Type} : Left H := { results := [], args := [] }

/-- 'ravelinlaw4.ReachAlike': WHATEVER THE INPUT: true; the input reads as it did. -/
def reachAlikeSpec : ChangeSpec := { name := "reachAlike", fn := fun _ => fun
  | [d] => { results := [.lit (.bool true)], args := [d] }
  | _ => none }
def reachAlikeRow : OpenClaim := { program := "ytiebknfmmanbiaa", sum := "949c80ffc6a33bb4dc77ada1dfdd96f552a1bdc7e8f3e44b44cc6afec792b82c", func := "ravelin/ravelinlaw4.ReachAlike", spec := "reachAlike", apart := false }
def ReachAlikeSaid : Prop := reachAlikeRow.holds Try.pinned (OpenSpec.ofChange reachAlikeSpec)

/-- ITS FALSE NEIGHBOUR: 'it returns false'. Refute it at one input. -/
def reachAlikeWrong : ChangeSpec := { name := "reachAlike", fn := fun _ => fun
  | [d] => { results := [.lit (.bool false)], args := [d] }
  | _ => none }
def ReachAlikeWrongFalsely : Prop := reachAlikeRow.holds Try.pinned (OpenSpec.ofChange reachAlikeWrong)

/-- 'ravelinlaw1.EachRing': WHATEVER THE INPUT: true; the input reads as it did. -/
def eachRingSpec : ChangeSpec := { name := "eachRing", fn := fun _ => fun
  | [d1, d2, d3] => { results := [.lit (.bool true)], args := [d1, d2, d3] }
  | _ => none }
def eachRingRow : OpenClaim := { program := "ytiebknfmmanbiaa", sum := "949c80ffc6a33bb4dc77ada1dfdd96f552a1bdc7e8f3e44b44cc6afec792b82c", func := "ravelin/ravelinlaw1.EachRing", spec := "eachRing", unfollowed := true, recurses := true, apart := false }
def EachRingSaid : Prop := eachRingRow.holds Try.pinned (OpenSpec.ofChange eachRingSpec)

/-- ITS FALSE NEIGHBOUR: 'it returns false'. Refute it at one input. -/
def eachRingWrong : ChangeSpec := { name := "eachRing", fn := fun _ => fun
  | [d1, d2, d3] => { results := [.lit (.bool false)], args := [d1, d2, d3] }
  | _ => none }
def EachRingWrongFalsely : Prop := eachRingRow.holds Try.pinned (OpenSpec.ofChange eachRingWrong)

/-- 'ravelinlaw1.EachRavels': WHATEVER THE INPUT: true; the input reads as it did. -/
def eachRavelsSpec : ChangeSpec := { name := "eachRavels", fn := fun _ => fun
  | [d1, d2, d3] => { results := [.lit (.bool true)], args := [d1, d2, d3] }
  | _ => none }
def eachRavelsRow : OpenClaim := { program := "ytiebknfmmanbiaa", sum := "949c80ffc6a33bb4dc77ada1dfdd96f552a1bdc7e8f3e44b44cc6afec792b82c", func := "ravelin/ravelinlaw1.EachRavels", spec := "eachRavels", unfollowed := true, recurses := true, apart := false }
def EachRavelsSaid : Prop := eachRavelsRow.holds Try.pinned (OpenSpec.ofChange eachRavelsSpec)

/-- ITS FALSE NEIGHBOUR: 'it returns false'. Refute it at one input. -/
def eachRavelsWrong : ChangeSpec := { name := "eachRavels", fn := fun _ => fun
  | [d1, d2, d3] => { results := [.lit (.bool false)], args := [d1, d2, d3] }
  | _ => none }
def EachRavelsWrongFalsely : Prop := eachRavelsRow.holds Try.pinned (OpenSpec.ofChange eachRavelsWrong)

/-- 'ravelinlaw1.EachSpreads': WHATEVER THE INPUT: true; the input reads as it did. -/
def eachSpreadsSpec : ChangeSpec := { name := "eachSpreads", fn := fun _ => fun
  | [d1, d2, d3] => { results := [.lit (.bool true)], args := [d1, d2, d3] }
  | _ => none }
def eachSpreadsRow : OpenClaim := { program := "ytiebknfmmanbiaa", sum := "949c80ffc6a33bb4dc77ada1dfdd96f552a1bdc7e8f3e44b44cc6afec792b82c", func := "ravelin/ravelinlaw1.EachSpreads", spec := "eachSpreads", unfollowed := true, recurses := true, apart := false }
def EachSpreadsSaid : Prop := eachSpreadsRow.holds Try.pinned (OpenSpec.ofChange eachSpreadsSpec)

/-- ITS FALSE NEIGHBOUR: 'it returns false'. Refute it at one input. -/
def eachSpreadsWrong : ChangeSpec := { name := "eachSpreads", fn := fun _ => fun
  | [d1, d2, d3] => { results := [.lit (.bool false)], args := [d1, d2, d3] }
  | _ => none }
def EachSpreadsWrongFalsely : Prop := eachSpreadsRow.holds Try.pinned (OpenSpec.ofChange eachSpreadsWrong)

/-- 'ravelinlaw1.EachSwaps': WHATEVER THE INPUT: true; the input reads as it did. -/
def eachSwapsSpec : ChangeSpec := { name := "eachSwaps", fn := fun _ => fun
  | [d1, d2] => { results := [.lit (.bool true)], args := [d1, d2] }
  | _ => none }
def eachSwapsRow : OpenClaim := { program := "ytiebknfmmanbiaa", sum := "949c80ffc6a33bb4dc77ada1dfdd96f552a1bdc7e8f3e44b44cc6afec792b82c", func := "ravelin/ravelinlaw1.EachSwaps", spec := "eachSwaps", unfollowed := true, recurses := true, apart := false }
def EachSwapsSaid : Prop := eachSwapsRow.holds Try.pinned (OpenSpec.ofChange eachSwapsSpec)

/-- ITS FALSE NEIGHBOUR: 'it returns false'. Refute it at one input. -/
def eachSwapsWrong : ChangeSpec := { name := "eachSwaps", fn := fun _ => fun
  | [d1, d2] => { results := [.lit (.bool false)], args := [d1, d2] }
  | _ => none }
def EachSwapsWrongFalsely : Prop := eachSwapsRow.holds Try.pinned (OpenSpec.ofChange eachSwapsWrong)

/-- 'ravelinlaw4.ProdLines': WHATEVER THE INPUT: true; the input reads as it did. -/
def prodLinesSpec : ChangeSpec := { name := "prodLines", fn := fun _ => fun
  | [d1, d2, d3, d4] => { results := [.lit (.bool true)], args := [d1, d2, d3, d4] }
  | _ => none }
def prodLinesRow : OpenClaim := { program := "ytiebknfmmanbiaa", sum := "949c80ffc6a33bb4dc77ada1dfdd96f552a1bdc7e8f3e44b44cc6afec792b82c", func := "ravelin/ravelinlaw4.ProdLines", spec := "prodLines", unfollowed := true, recurses := true, apart := false }
def ProdLinesSaid : Prop := prodLinesRow.holds Try.pinned (OpenSpec.ofChange prodLinesSpec)

/-- ITS FALSE NEIGHBOUR: 'it returns false'. Refute it at one input. -/
def prodLinesWrong : ChangeSpec := { name := "prodLines", fn := fun _ => fun
  | [d1, d2, d3, d4] => { results := [.lit (.bool false)], args := [d1, d2, d3, d4] }
  | _ => none }
def ProdLinesWrongFalsely : Prop := prodLinesRow.holds Try.pinned (OpenSpec.ofChange prodLinesWrong)

/-- 'ravelinlaw4.ProdParts': WHATEVER THE INPUT: true; the input reads as it did. -/
def prodPartsSpec : ChangeSpec := { name := "prodParts", fn := fun _ => fun
  | [d1, d2, d3, d4] => { results := [.lit (.bool true)], args := [d1, d2, d3, d4] }
  | _ => none }
def prodPartsRow : OpenClaim := { program := "ytiebknfmmanbiaa", sum := "949c80ffc6a33bb4dc77ada1dfdd96f552a1bdc7e8f3e44b44cc6afec792b82c", func := "ravelin/ravelinlaw4.ProdParts", spec := "prodParts", unfollowed := true, recurses := true, apart := false }
def ProdPartsSaid : Prop := prodPartsRow.holds Try.pinned (OpenSpec.ofChange prodPartsSpec)

/-- ITS FALSE NEIGHBOUR: 'it returns false'. Refute it at one input. -/
def prodPartsWrong : ChangeSpec := { name := "prodParts", fn := fun _ => fun
  | [d1, d2, d3, d4] => { results := [.lit (.bool false)], args := [d1, d2, d3, d4] }
  | _ => none }
def ProdPartsWrongFalsely : Prop := prodPartsRow.holds Try.pinned (OpenSpec.ofChange prodPartsWrong)

/-- 'ravelinlaw4.ReachSteps': WHATEVER THE INPUT: true; the input reads as it did. -/
def reachStepsSpec : ChangeSpec := { name := "reachSteps", fn := fun _ => fun
  | [d] => { results := [.lit (.bool true)], args := [d] }
  | _ => none }
def reachStepsRow : OpenClaim := { program := "ytiebknfmmanbiaa", sum := "949c80ffc6a33bb4dc77ada1dfdd96f552a1bdc7e8f3e44b44cc6afec792b82c", func := "ravelin/ravelinlaw4.ReachSteps", spec := "reachSteps", unfollowed := true, recurses := true, apart := false }
def ReachStepsSaid : Prop := reachStepsRow.holds Try.pinned (OpenSpec.ofChange reachStepsSpec)

/-- ITS FALSE NEIGHBOUR: 'it returns false'. Refute it at one input. -/
def reachStepsWrong : ChangeSpec := { name := "reachSteps", fn := fun _ => fun
  | [d] => { results := [.lit (.bool false)], args := [d] }
  | _ => none }
def ReachStepsWrongFalsely : Prop := reachStepsRow.holds Try.pinned (OpenSpec.ofChange reachStepsWrong)

/- THE SECOND FORM. 'bulk': how many values and letters a reading holds, each counted each time it is reached (what is shared counts as often as it is met; a slice's spare places count too). A statement '..UptoSaid' is the law's where the arguments, and the package variables that the reading takes, are together of bulk at most 1048576: NARROWER than '..Said'. Prove '..Said' where nothing that the law and all that it calls make is longer than what came in: it says more and counts as full. Else prove '..UptoSaid'. A law counts once. -/
mutual
def uptoBulk {H : Type} : DataW H → Nat
  | .lit (.string bytes) => bytes.length + 1
  | .lit _ => 1
  | .nil => 1
  | .ptr d => uptoBulk d + 1
  | .slice elems spare => uptoBulkAll elems + uptoBulkAll spare + 1
  | .agg parts => uptoBulkAll parts + 1
  | .iface _ d => uptoBulk d + 1
  | .map entries => uptoBulkEntries entries + 1
  | .held _ => 1
def uptoBulkAll {H : Type} : List (DataW H) → Nat
  | [] => 0
  | d :: r => uptoBulk d + uptoBulkAll r
def uptoBulkEntries {H : Type} : List (Lit × DataW H) → Nat
  | [] => 0
  | x :: r => uptoBulkEntry x + uptoBulkEntries r
def uptoBulkEntry {H : Type} : Lit × DataW H → Nat
  | (.string bytes, d) => bytes.length + uptoBulk d + 1
  | (_, d) => uptoBulk d + 1
 end
def uptoSmall : (H : Type) → List (DataW H) → Bool := fun _ ds => decide (uptoBulkAll ds ≤ 1048576)
def OpenSpec.upto (s : _root_.Go.ChangeSpec) : _root_.Go.OpenSpec := { _root_.Go.OpenSpec.ofChange s with cond := some uptoSmall }

/-- 'ravelinlaw4.ReachAlike', WHERE WHAT IT READS IS OF BULK AT MOST 1048576: true; the input reads as it did. -/
def reachAlikeUptoRow : OpenClaim := { program := "ytiebknfmmanbiaa", sum := "949c80ffc6a33bb4dc77ada1dfdd96f552a1bdc7e8f3e44b44cc6afec792b82c", func := "ravelin/ravelinlaw4.ReachAlike", spec := "reachAlike", apart := false, narrowed := true }
def ReachAlikeUptoSaid : Prop := reachAlikeUptoRow.holds Try.pinned (OpenSpec.upto reachAlikeSpec)

/-- 'ravelinlaw1.EachRing', WHERE WHAT IT READS IS OF BULK AT MOST 1048576: true; the input reads as it did. -/
def eachRingUptoRow : OpenClaim := { program := "ytiebknfmmanbiaa", sum := "949c80ffc6a33bb4dc77ada1dfdd96f552a1bdc7e8f3e44b44cc6afec792b82c", func := "ravelin/ravelinlaw1.EachRing", spec := "eachRing", unfollowed := true, recurses := true, apart := false, narrowed := true }
def EachRingUptoSaid : Prop := eachRingUptoRow.holds Try.pinned (OpenSpec.upto eachRingSpec)

/-- 'ravelinlaw1.EachRavels', WHERE WHAT IT READS IS OF BULK AT MOST 1048576: true; the input reads as it did. -/
def eachRavelsUptoRow : OpenClaim := { program := "ytiebknfmmanbiaa", sum := "949c80ffc6a33bb4dc77ada1dfdd96f552a1bdc7e8f3e44b44cc6afec792b82c", func := "ravelin/ravelinlaw1.EachRavels", spec := "eachRavels", unfollowed := true, recurses := true, apart := false, narrowed := true }
def EachRavelsUptoSaid : Prop := eachRavelsUptoRow.holds Try.pinned (OpenSpec.upto eachRavelsSpec)

/-- 'ravelinlaw1.EachSpreads', WHERE WHAT IT READS IS OF BULK AT MOST 1048576: true; the input reads as it did. -/
def eachSpreadsUptoRow : OpenClaim := { program := "ytiebknfmmanbiaa", sum := "949c80ffc6a33bb4dc77ada1dfdd96f552a1bdc7e8f3e44b44cc6afec792b82c", func := "ravelin/ravelinlaw1.EachSpreads", spec := "eachSpreads", unfollowed := true, recurses := true, apart := false, narrowed := true }
def EachSpreadsUptoSaid : Prop := eachSpreadsUptoRow.holds Try.pinned (OpenSpec.upto eachSpreadsSpec)

/-- 'ravelinlaw1.EachSwaps', WHERE WHAT IT READS IS OF BULK AT MOST 1048576: true; the input reads as it did. -/
def eachSwapsUptoRow : OpenClaim := { program := "ytiebknfmmanbiaa", sum := "949c80ffc6a33bb4dc77ada1dfdd96f552a1bdc7e8f3e44b44cc6afec792b82c", func := "ravelin/ravelinlaw1.EachSwaps", spec := "eachSwaps", unfollowed := true, recurses := true, apart := false, narrowed := true }
def EachSwapsUptoSaid : Prop := eachSwapsUptoRow.holds Try.pinned (OpenSpec.upto eachSwapsSpec)

/-- 'ravelinlaw4.ProdLines', WHERE WHAT IT READS IS OF BULK AT MOST 1048576: true; the input reads as it did. -/
def prodLinesUptoRow : OpenClaim := { program := "ytiebknfmmanbiaa", sum := "949c80ffc6a33bb4dc77ada1dfdd96f552a1bdc7e8f3e44b44cc6afec792b82c", func := "ravelin/ravelinlaw4.ProdLines", spec := "prodLines", unfollowed := true, recurses := true, apart := false, narrowed := true }
def ProdLinesUptoSaid : Prop := prodLinesUptoRow.holds Try.pinned (OpenSpec.upto prodLinesSpec)

/-- 'ravelinlaw4.ProdParts', WHERE WHAT IT READS IS OF BULK AT MOST 1048576: true; the input reads as it did. -/
def prodPartsUptoRow : OpenClaim := { program := "ytiebknfmmanbiaa", sum := "949c80ffc6a33bb4dc77ada1dfdd96f552a1bdc7e8f3e44b44cc6afec792b82c", func := "ravelin/ravelinlaw4.ProdParts", spec := "prodParts", unfollowed := true, recurses := true, apart := false, narrowed := true }
def ProdPartsUptoSaid : Prop := prodPartsUptoRow.holds Try.pinned (OpenSpec.upto prodPartsSpec)

/-- 'ravelinlaw4.ReachSteps', WHERE WHAT IT READS IS OF BULK AT MOST 1048576: true; the input reads as it did. -/
def reachStepsUptoRow : OpenClaim := { program := "ytiebknfmmanbiaa", sum := "949c80ffc6a33bb4dc77ada1dfdd96f552a1bdc7e8f3e44b44cc6afec792b82c", func := "ravelin/ravelinlaw4.ReachSteps", spec := "reachSteps", unfollowed := true, recurses := true, apart := false, narrowed := true }
def ReachStepsUptoSaid : Prop := reachStepsUptoRow.holds Try.pinned (OpenSpec.upto reachStepsSpec)

end Rows
end Go.Proofs.Ytiebknfmmanbiaa
