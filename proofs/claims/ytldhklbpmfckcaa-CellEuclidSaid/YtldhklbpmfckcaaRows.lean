/-
  No cell of these rows narrows 'for every input' (looked for: loops, veiled, ifaces, maps, wideKeys, modest, calm, conditions, laid).
  DERIVED. THE GIVEN ROWS OF THIS SEAT. 11 by the template 'for every input the law returns true; each argument reads behind the call as it read before'; 0 by the template 'total and deterministic' (their statements: YtldhklbpmfckcaaTotals.lean).
  GIVEN WITH THE SEED: the statements are not yours to turn. If you find one false, say at which input.
  Laid BY PROGRAM, IN A SANDBOX (cutbox-rows.mjs): the forced cells as the released guide's own fill.sh prints them over the translation f0e49a622725cb9c… (all of the seat's roots in one cut). By AI agents, Wed Nov 11 2026. No macro, syntax, notation, axiom, sorry.
-/
import Derived.Test.YtldhklbpmfckcaaChecked
import GoSem.Claim
import GoSem.ClaimJoined
import GoSem.ClaimMapViews
import Derived.JoinedTies
import Derived.KernelRfl
namespace Go.Proofs.Ytldhklbpmfckcaa
/- THE CELL 'sum', in the pinned program and in every row, IS THE sha256 OF THE DUMP (.gsa) THAT YtldhklbpmfckcaaProg.lean LOADS. Nothing in Lean hashes anything: it is a label: what it is worth is what the hold of that sum in a sandbox is worth. -/
noncomputable def Try.pinned : Pinned := { name := "ytldhklbpmfckcaa", sum := "f0e49a622725cb9c26211f6af1a4d7f21535feae6ec75dcbfc3276846c36a871", checked := Try.checked }
namespace Rows
def none {H : Type} : Left H := { results := [], args := [] }

/-- 'ravelinlaw1.CellEuclid': WHATEVER THE INPUT: true; the input reads as it did. -/
def cellEuclidSpec : ChangeSpec := { name := "cellEuclid", fn := fun _ => fun
  | [d1, d2, d3] => { results := [.lit (.bool true)], args := [d1, d2, d3] }
  | _ => none }
def cellEuclidRow : OpenClaim := { program := "ytldhklbpmfckcaa", sum := "f0e49a622725cb9c26211f6af1a4d7f21535feae6ec75dcbfc3276846c36a871", func := "ravelin/ravelinlaw1.CellEuclid", spec := "cellEuclid", apart := false }
def CellEuclidSaid : Prop := cellEuclidRow.holds Try.pinned (OpenSpec.ofChange cellEuclidSpec)

/-- ITS FALSE NEIGHBOUR: 'it returns false'. Refute it at one input. -/
def cellEuclidWrong : ChangeSpec := { name := "cellEuclid", fn := fun _ => fun
  | [d1, d2, d3] => { results := [.lit (.bool false)], args := [d1, d2, d3] }
  | _ => none }
def CellEuclidWrongFalsely : Prop := cellEuclidRow.holds Try.pinned (OpenSpec.ofChange cellEuclidWrong)

/-- 'ravelinlaw1.Names': WHATEVER THE INPUT: true; the input reads as it did. -/
def namesSpec : ChangeSpec := { name := "names", fn := fun _ => fun
  | [] => { results := [.lit (.bool true)], args := [] }
  | _ => none }
def namesRow : OpenClaim := { program := "ytldhklbpmfckcaa", sum := "f0e49a622725cb9c26211f6af1a4d7f21535feae6ec75dcbfc3276846c36a871", func := "ravelin/ravelinlaw1.Names", spec := "names", apart := false }
def NamesSaid : Prop := namesRow.holds Try.pinned (OpenSpec.ofChange namesSpec)

/-- ITS FALSE NEIGHBOUR: 'it returns false'. Refute it at one input. -/
def namesWrong : ChangeSpec := { name := "names", fn := fun _ => fun
  | [] => { results := [.lit (.bool false)], args := [] }
  | _ => none }
def NamesWrongFalsely : Prop := namesRow.holds Try.pinned (OpenSpec.ofChange namesWrong)

/-- 'ravelinlaw1.ShapeJoins': WHATEVER THE INPUT: true; the input reads as it did. -/
def shapeJoinsSpec : ChangeSpec := { name := "shapeJoins", fn := fun _ => fun
  | [d1, d2, d3, d4] => { results := [.lit (.bool true)], args := [d1, d2, d3, d4] }
  | _ => none }
def shapeJoinsRow : OpenClaim := { program := "ytldhklbpmfckcaa", sum := "f0e49a622725cb9c26211f6af1a4d7f21535feae6ec75dcbfc3276846c36a871", func := "ravelin/ravelinlaw1.ShapeJoins", spec := "shapeJoins", apart := false }
def ShapeJoinsSaid : Prop := shapeJoinsRow.holds Try.pinned (OpenSpec.ofChange shapeJoinsSpec)

/-- ITS FALSE NEIGHBOUR: 'it returns false'. Refute it at one input. -/
def shapeJoinsWrong : ChangeSpec := { name := "shapeJoins", fn := fun _ => fun
  | [d1, d2, d3, d4] => { results := [.lit (.bool false)], args := [d1, d2, d3, d4] }
  | _ => none }
def ShapeJoinsWrongFalsely : Prop := shapeJoinsRow.holds Try.pinned (OpenSpec.ofChange shapeJoinsWrong)

/-- 'ravelinlaw1.ShapeFlips': WHATEVER THE INPUT: true; the input reads as it did. -/
def shapeFlipsSpec : ChangeSpec := { name := "shapeFlips", fn := fun _ => fun
  | [d1, d2] => { results := [.lit (.bool true)], args := [d1, d2] }
  | _ => none }
def shapeFlipsRow : OpenClaim := { program := "ytldhklbpmfckcaa", sum := "f0e49a622725cb9c26211f6af1a4d7f21535feae6ec75dcbfc3276846c36a871", func := "ravelin/ravelinlaw1.ShapeFlips", spec := "shapeFlips", apart := false }
def ShapeFlipsSaid : Prop := shapeFlipsRow.holds Try.pinned (OpenSpec.ofChange shapeFlipsSpec)

/-- ITS FALSE NEIGHBOUR: 'it returns false'. Refute it at one input. -/
def shapeFlipsWrong : ChangeSpec := { name := "shapeFlips", fn := fun _ => fun
  | [d1, d2] => { results := [.lit (.bool false)], args := [d1, d2] }
  | _ => none }
def ShapeFlipsWrongFalsely : Prop := shapeFlipsRow.holds Try.pinned (OpenSpec.ofChange shapeFlipsWrong)

/-- 'ravelinlaw1.ShapeOrder': WHATEVER THE INPUT: true; the input reads as it did. -/
def shapeOrderSpec : ChangeSpec := { name := "shapeOrder", fn := fun _ => fun
  | [d1, d2, d3] => { results := [.lit (.bool true)], args := [d1, d2, d3] }
  | _ => none }
def shapeOrderRow : OpenClaim := { program := "ytldhklbpmfckcaa", sum := "f0e49a622725cb9c26211f6af1a4d7f21535feae6ec75dcbfc3276846c36a871", func := "ravelin/ravelinlaw1.ShapeOrder", spec := "shapeOrder", unfollowed := true, recurses := true, apart := false }
def ShapeOrderSaid : Prop := shapeOrderRow.holds Try.pinned (OpenSpec.ofChange shapeOrderSpec)

/-- ITS FALSE NEIGHBOUR: 'it returns false'. Refute it at one input. -/
def shapeOrderWrong : ChangeSpec := { name := "shapeOrder", fn := fun _ => fun
  | [d1, d2, d3] => { results := [.lit (.bool false)], args := [d1, d2, d3] }
  | _ => none }
def ShapeOrderWrongFalsely : Prop := shapeOrderRow.holds Try.pinned (OpenSpec.ofChange shapeOrderWrong)

/-- 'ravelinlaw1.ShapeBack': WHATEVER THE INPUT: true; the input reads as it did. -/
def shapeBackSpec : ChangeSpec := { name := "shapeBack", fn := fun _ => fun
  | [d1, d2, d3] => { results := [.lit (.bool true)], args := [d1, d2, d3] }
  | _ => none }
def shapeBackRow : OpenClaim := { program := "ytldhklbpmfckcaa", sum := "f0e49a622725cb9c26211f6af1a4d7f21535feae6ec75dcbfc3276846c36a871", func := "ravelin/ravelinlaw1.ShapeBack", spec := "shapeBack", unfollowed := true, recurses := true, apart := false }
def ShapeBackSaid : Prop := shapeBackRow.holds Try.pinned (OpenSpec.ofChange shapeBackSpec)

/-- ITS FALSE NEIGHBOUR: 'it returns false'. Refute it at one input. -/
def shapeBackWrong : ChangeSpec := { name := "shapeBack", fn := fun _ => fun
  | [d1, d2, d3] => { results := [.lit (.bool false)], args := [d1, d2, d3] }
  | _ => none }
def ShapeBackWrongFalsely : Prop := shapeBackRow.holds Try.pinned (OpenSpec.ofChange shapeBackWrong)

/-- 'ravelinlaw1.CellBits': WHATEVER THE INPUT: true; the input reads as it did. -/
def cellBitsSpec : ChangeSpec := { name := "cellBits", fn := fun _ => fun
  | [d1, d2] => { results := [.lit (.bool true)], args := [d1, d2] }
  | _ => none }
def cellBitsRow : OpenClaim := { program := "ytldhklbpmfckcaa", sum := "f0e49a622725cb9c26211f6af1a4d7f21535feae6ec75dcbfc3276846c36a871", func := "ravelin/ravelinlaw1.CellBits", spec := "cellBits", apart := false }
def CellBitsSaid : Prop := cellBitsRow.holds Try.pinned (OpenSpec.ofChange cellBitsSpec)

/-- ITS FALSE NEIGHBOUR: 'it returns false'. Refute it at one input. -/
def cellBitsWrong : ChangeSpec := { name := "cellBits", fn := fun _ => fun
  | [d1, d2] => { results := [.lit (.bool false)], args := [d1, d2] }
  | _ => none }
def CellBitsWrongFalsely : Prop := cellBitsRow.holds Try.pinned (OpenSpec.ofChange cellBitsWrong)

/-- 'ravelinlaw1.CellOrders': WHATEVER THE INPUT: true; the input reads as it did. -/
def cellOrdersSpec : ChangeSpec := { name := "cellOrders", fn := fun _ => fun
  | [d1, d2, d3] => { results := [.lit (.bool true)], args := [d1, d2, d3] }
  | _ => none }
def cellOrdersRow : OpenClaim := { program := "ytldhklbpmfckcaa", sum := "f0e49a622725cb9c26211f6af1a4d7f21535feae6ec75dcbfc3276846c36a871", func := "ravelin/ravelinlaw1.CellOrders", spec := "cellOrders", apart := false }
def CellOrdersSaid : Prop := cellOrdersRow.holds Try.pinned (OpenSpec.ofChange cellOrdersSpec)

/-- ITS FALSE NEIGHBOUR: 'it returns false'. Refute it at one input. -/
def cellOrdersWrong : ChangeSpec := { name := "cellOrders", fn := fun _ => fun
  | [d1, d2, d3] => { results := [.lit (.bool false)], args := [d1, d2, d3] }
  | _ => none }
def CellOrdersWrongFalsely : Prop := cellOrdersRow.holds Try.pinned (OpenSpec.ofChange cellOrdersWrong)

/-- 'ravelinlaw1.CellPowers': WHATEVER THE INPUT: true; the input reads as it did. -/
def cellPowersSpec : ChangeSpec := { name := "cellPowers", fn := fun _ => fun
  | [d1, d2, d3, d4] => { results := [.lit (.bool true)], args := [d1, d2, d3, d4] }
  | _ => none }
def cellPowersRow : OpenClaim := { program := "ytldhklbpmfckcaa", sum := "f0e49a622725cb9c26211f6af1a4d7f21535feae6ec75dcbfc3276846c36a871", func := "ravelin/ravelinlaw1.CellPowers", spec := "cellPowers", apart := false }
def CellPowersSaid : Prop := cellPowersRow.holds Try.pinned (OpenSpec.ofChange cellPowersSpec)

/-- ITS FALSE NEIGHBOUR: 'it returns false'. Refute it at one input. -/
def cellPowersWrong : ChangeSpec := { name := "cellPowers", fn := fun _ => fun
  | [d1, d2, d3, d4] => { results := [.lit (.bool false)], args := [d1, d2, d3, d4] }
  | _ => none }
def CellPowersWrongFalsely : Prop := cellPowersRow.holds Try.pinned (OpenSpec.ofChange cellPowersWrong)

/-- 'ravelinlaw1.CellSame': WHATEVER THE INPUT: true; the input reads as it did. -/
def cellSameSpec : ChangeSpec := { name := "cellSame", fn := fun _ => fun
  | [d1, d2] => { results := [.lit (.bool true)], args := [d1, d2] }
  | _ => none }
def cellSameRow : OpenClaim := { program := "ytldhklbpmfckcaa", sum := "f0e49a622725cb9c26211f6af1a4d7f21535feae6ec75dcbfc3276846c36a871", func := "ravelin/ravelinlaw1.CellSame", spec := "cellSame", apart := false }
def CellSameSaid : Prop := cellSameRow.holds Try.pinned (OpenSpec.ofChange cellSameSpec)

/-- ITS FALSE NEIGHBOUR: 'it returns false'. Refute it at one input. -/
def cellSameWrong : ChangeSpec := { name := "cellSame", fn := fun _ => fun
  | [d1, d2] => { results := [.lit (.bool false)], args := [d1, d2] }
  | _ => none }
def CellSameWrongFalsely : Prop := cellSameRow.holds Try.pinned (OpenSpec.ofChange cellSameWrong)

/-- 'ravelinlaw1.CellRing': WHATEVER THE INPUT: true; the input reads as it did. -/
def cellRingSpec : ChangeSpec := { name := "cellRing", fn := fun _ => fun
  | [d1, d2, d3] => { results := [.lit (.bool true)], args := [d1, d2, d3] }
  | _ => none }
def cellRingRow : OpenClaim := { program := "ytldhklbpmfckcaa", sum := "f0e49a622725cb9c26211f6af1a4d7f21535feae6ec75dcbfc3276846c36a871", func := "ravelin/ravelinlaw1.CellRing", spec := "cellRing", apart := false }
def CellRingSaid : Prop := cellRingRow.holds Try.pinned (OpenSpec.ofChange cellRingSpec)

/-- ITS FALSE NEIGHBOUR: 'it returns false'. Refute it at one input. -/
def cellRingWrong : ChangeSpec := { name := "cellRing", fn := fun _ => fun
  | [d1, d2, d3] => { results := [.lit (.bool false)], args := [d1, d2, d3] }
  | _ => none }
def CellRingWrongFalsely : Prop := cellRingRow.holds Try.pinned (OpenSpec.ofChange cellRingWrong)

/- THE SECOND FORM. 'bulk': how many values and letters a reading holds, each counted each time it is reached (what is shared counts as often as it is met; a slice's spare places count too). A statement '..UptoSaid' is the law's where the arguments, and the package variables that the reading takes, are together of bulk at most 1048576: NARROWER than '..Said'. Prove '..Said' where nothing that the law and all that it calls make is longer than what came in: it says more and counts as full. Else prove '..UptoSaid'. A law counts once. -/
mutual
def uptoBulk {H : Type} : DataW H → Nat
  | .lit (.string bytes) => bytes.length + 1
  | .lit _ => 1
  | .nil => 1
  | .ptr d => uptoBulk d + 1
  | .slice elems spare => uptoBulkAll elems + uptoBulkAll spare + 1
  | .agg parts => uptoBulkAll parts + 1
  | .iface _ d => uptoBulk d + 1
  | .map entries => uptoBulkEntries entries + 1
  | .held _ => 1
def uptoBulkAll {H : Type} : List (DataW H) → Nat
  | [] => 0
  | d :: r => uptoBulk d + uptoBulkAll r
def uptoBulkEntries {H : Type} : List (Lit × DataW H) → Nat
  | [] => 0
  | x :: r => uptoBulkEntry x + uptoBulkEntries r
def uptoBulkEntry {H : Type} : Lit × DataW H → Nat
  | (.string bytes, d) => bytes.length + uptoBulk d + 1
  | (_, d) => uptoBulk d + 1
 end
def uptoSmall : (H : Type) → List (DataW H) → Bool := fun _ ds => decide (uptoBulkAll ds ≤ 1048576)
def OpenSpec.upto (s : _root_.Go.ChangeSpec) : _root_.Go.OpenSpec := { _root_.Go.OpenSpec.ofChange s with cond := some uptoSmall }

/-- 'ravelinlaw1.CellEuclid', WHERE WHAT IT READS IS OF BULK AT MOST 1048576: true; the input reads as it did. -/
def cellEuclidUptoRow : OpenClaim := { program := "ytldhklbpmfckcaa", sum := "f0e49a622725cb9c26211f6af1a4d7f21535feae6ec75dcbfc3276846c36a871", func := "ravelin/ravelinlaw1.CellEuclid", spec := "cellEuclid", apart := false, narrowed := true }
def CellEuclidUptoSaid : Prop := cellEuclidUptoRow.holds Try.pinned (OpenSpec.upto cellEuclidSpec)

/-- 'ravelinlaw1.Names', WHERE WHAT IT READS IS OF BULK AT MOST 1048576: true; the input reads as it did. -/
def namesUptoRow : OpenClaim := { program := "ytldhklbpmfckcaa", sum := "f0e49a622725cb9c26211f6af1a4d7f21535feae6ec75dcbfc3276846c36a871", func := "ravelin/ravelinlaw1.Names", spec := "names", apart := false, narrowed := true }
def NamesUptoSaid : Prop := namesUptoRow.holds Try.pinned (OpenSpec.upto namesSpec)

/-- 'ravelinlaw1.ShapeJoins', WHERE WHAT IT READS IS OF BULK AT MOST 1048576: true; the input reads as it did. -/
def shapeJoinsUptoRow : OpenClaim := { program := "ytldhklbpmfckcaa", sum := "f0e49a622725cb9c26211f6af1a4d7f21535feae6ec75dcbfc3276846c36a871", func := "ravelin/ravelinlaw1.ShapeJoins", spec := "shapeJoins", apart := false, narrowed := true }
def ShapeJoinsUptoSaid : Prop := shapeJoinsUptoRow.holds Try.pinned (OpenSpec.upto shapeJoinsSpec)

/-- 'ravelinlaw1.ShapeFlips', WHERE WHAT IT READS IS OF BULK AT MOST 1048576: true; the input reads as it did. -/
def shapeFlipsUptoRow : OpenClaim := { program := "ytldhklbpmfckcaa", sum := "f0e49a622725cb9c26211f6af1a4d7f21535feae6ec75dcbfc3276846c36a871", func := "ravelin/ravelinlaw1.ShapeFlips", spec := "shapeFlips", apart := false, narrowed := true }
def ShapeFlipsUptoSaid : Prop := shapeFlipsUptoRow.holds Try.pinned (OpenSpec.upto shapeFlipsSpec)

/-- 'ravelinlaw1.ShapeOrder', WHERE WHAT IT READS IS OF BULK AT MOST 1048576: true; the input reads as it did. -/
def shapeOrderUptoRow : OpenClaim := { program := "ytldhklbpmfckcaa", sum := "f0e49a622725cb9c26211f6af1a4d7f21535feae6ec75dcbfc3276846c36a871", func := "ravelin/ravelinlaw1.ShapeOrder", spec := "shapeOrder", unfollowed := true, recurses := true, apart := false, narrowed := true }
def ShapeOrderUptoSaid : Prop := shapeOrderUptoRow.holds Try.pinned (OpenSpec.upto shapeOrderSpec)

/-- 'ravelinlaw1.ShapeBack', WHERE WHAT IT READS IS OF BULK AT MOST 1048576: true; the input reads as it did. -/
def shapeBackUptoRow : OpenClaim := { program := "ytldhklbpmfckcaa", sum := "f0e49a622725cb9c26211f6af1a4d7f21535feae6ec75dcbfc3276846c36a871", func := "ravelin/ravelinlaw1.ShapeBack", spec := "shapeBack", unfollowed := true, recurses := true, apart := false, narrowed := true }
def ShapeBackUptoSaid : Prop := shapeBackUptoRow.holds Try.pinned (OpenSpec.upto shapeBackSpec)

/-- 'ravelinlaw1.CellBits', WHERE WHAT IT READS IS OF BULK AT MOST 1048576: true; the input reads as it did. -/
def cellBitsUptoRow : OpenClaim := { program := "ytldhklbpmfckcaa", sum := "f0e49a622725cb9c26211f6af1a4d7f21535feae6ec75dcbfc3276846c36a871", func := "ravelin/ravelinlaw1.CellBits", spec := "cellBits", apart := false, narrowed := true }
def CellBitsUptoSaid : Prop := cellBitsUptoRow.holds Try.pinned (OpenSpec.upto cellBitsSpec)

/-- 'ravelinlaw1.CellOrders', WHERE WHAT IT READS IS OF BULK AT MOST 1048576: true; the input reads as it did. -/
def cellOrdersUptoRow : OpenClaim := { program := "ytldhklbpmfckcaa", sum := "f0e49a622725cb9c26211f6af1a4d7f21535feae6ec75dcbfc3276846c36a871", func := "ravelin/ravelinlaw1.CellOrders", spec := "cellOrders", apart := false, narrowed := true }
def CellOrdersUptoSaid : Prop := cellOrdersUptoRow.holds Try.pinned (OpenSpec.upto cellOrdersSpec)

/-- 'ravelinlaw1.CellPowers', WHERE WHAT IT READS IS OF BULK AT MOST 1048576: true; the input reads as it did. -/
def cellPowersUptoRow : OpenClaim := { program := "ytldhklbpmfckcaa", sum := "f0e49a622725cb9c26211f6af1a4d7f21535feae6ec75dcbfc3276846c36a871", func := "ravelin/ravelinlaw1.CellPowers", spec := "cellPowers", apart := false, narrowed := true }
def CellPowersUptoSaid : Prop := cellPowersUptoRow.holds Try.pinned (OpenSpec.upto cellPowersSpec)

/-- 'ravelinlaw1.CellSame', WHERE WHAT IT READS IS OF BULK AT MOST 1048576: true; the input reads as it did. -/
def cellSameUptoRow : OpenClaim := { program := "ytldhklbpmfckcaa", sum := "f0e49a622725cb9c26211f6af1a4d7f21535feae6ec75dcbfc3276846c36a871", func := "ravelin/ravelinlaw1.CellSame", spec := "cellSame", apart := false, narrowed := true }
def CellSameUptoSaid : Prop := cellSameUptoRow.holds Try.pinned (OpenSpec.upto cellSameSpec)

/-- 'ravelinlaw1.CellRing', WHERE WHAT IT READS IS OF BULK AT MOST 1048576: true; the input reads as it did. -/
def cellRingUptoRow : OpenClaim := { program := "ytldhklbpmfckcaa", sum := "f0e49a622725cb9c26211f6af1a4d7f21535feae6ec75dcbfc3276846c36a871", func := "ravelin/ravelinlaw1.CellRing", spec := "cellRing", apart := false, narrowed := true }
def CellRingUptoSaid : Prop := cellRingUptoRow.holds Try.pinned (OpenSpec.upto cellRingSpec)

end Rows
end Go.Proofs.Ytldhklbpmfckcaa
