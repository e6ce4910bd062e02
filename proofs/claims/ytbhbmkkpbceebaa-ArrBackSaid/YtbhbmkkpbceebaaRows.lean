/-
  No cell of these rows narrows 'for every input' (looked for: loops, veiled, ifaces, maps, wideKeys, modest, calm, conditions, laid).
  DERIVED. THE GIVEN ROWS OF THIS SEAT. 7 by the template 'for every input the law returns true; each argument reads behind the call as it read before'; 0 by the template 'total and deterministic' (their statements: YtbhbmkkpbceebaaTotals.lean).
  GIVEN WITH THE SEED: the statements are not yours to turn. If you find one false, say at which input.
  Laid BY PROGRAM, IN A SANDBOX (cutbox-rows.mjs): the forced cells as the released guide's own fill.sh prints them over the translation 84837c702d9543b4… (all of the seat's roots in one cut). By AI agents, Wed Nov 11 2026. No macro, syntax, notation, axiom, sorry.
-/
import Derived.Test.YtbhbmkkpbceebaaChecked
import GoSem.Claim
import GoSem.ClaimJoined
import GoSem.ClaimMapViews
import Derived.JoinedTies
import Derived.KernelRfl
namespace Go.Proofs.Ytbhbmkkpbceebaa
/- THE CELL 'sum', in the pinned program and in every row, IS THE sha256 OF THE DUMP (.gsa) THAT YtbhbmkkpbceebaaProg.lean LOADS. Nothing in Lean hashes anything: it is a label: what it is worth is what the hold of that sum in a sandbox is worth. -/
noncomputable def Try.pinned : Pinned := { name := "ytbhbmkkpbceebaa", sum := "84837c702d9543b4fafab63d522f4085e47944cf48e5d4fb3da47a8002f8ec99", checked := Try.checked }
namespace Rows
def none {H : Type} : Left H := { results := [], args := [] }

/-- 'ravelinlaw1.ArrSame': WHATEVER THE INPUT: true; the input reads as it did. -/
def arrSameSpec : ChangeSpec := { name := "arrSame", fn := fun _ => fun
  | [d1, d2, d3] => { results := [.lit (.bool true)], args := [d1, d2, d3] }
  | _ => none }
def arrSameRow : OpenClaim := { program := "ytbhbmkkpbceebaa", sum := "84837c702d9543b4fafab63d522f4085e47944cf48e5d4fb3da47a8002f8ec99", func := "ravelin/ravelinlaw1.ArrSame", spec := "arrSame", apart := false }
def ArrSameSaid : Prop := arrSameRow.holds Try.pinned (OpenSpec.ofChange arrSameSpec)

/-- ITS FALSE NEIGHBOUR: 'it returns false'. Refute it at one input. -/
def arrSameWrong : ChangeSpec := { name := "arrSame", fn := fun _ => fun
  | [d1, d2, d3] => { results := [.lit (.bool false)], args := [d1, d2, d3] }
  | _ => none }
def ArrSameWrongFalsely : Prop := arrSameRow.holds Try.pinned (OpenSpec.ofChange arrSameWrong)

/-- 'ravelinlaw1.ArrCycles': WHATEVER THE INPUT: true; the input reads as it did. -/
def arrCyclesSpec : ChangeSpec := { name := "arrCycles", fn := fun _ => fun
  | [d1, d2, d3] => { results := [.lit (.bool true)], args := [d1, d2, d3] }
  | _ => none }
def arrCyclesRow : OpenClaim := { program := "ytbhbmkkpbceebaa", sum := "84837c702d9543b4fafab63d522f4085e47944cf48e5d4fb3da47a8002f8ec99", func := "ravelin/ravelinlaw1.ArrCycles", spec := "arrCycles", apart := false }
def ArrCyclesSaid : Prop := arrCyclesRow.holds Try.pinned (OpenSpec.ofChange arrCyclesSpec)

/-- ITS FALSE NEIGHBOUR: 'it returns false'. Refute it at one input. -/
def arrCyclesWrong : ChangeSpec := { name := "arrCycles", fn := fun _ => fun
  | [d1, d2, d3] => { results := [.lit (.bool false)], args := [d1, d2, d3] }
  | _ => none }
def ArrCyclesWrongFalsely : Prop := arrCyclesRow.holds Try.pinned (OpenSpec.ofChange arrCyclesWrong)

/-- 'ravelinlaw1.ArrBack': WHATEVER THE INPUT: true; the input reads as it did. -/
def arrBackSpec : ChangeSpec := { name := "arrBack", fn := fun _ => fun
  | [d] => { results := [.lit (.bool true)], args := [d] }
  | _ => none }
def arrBackRow : OpenClaim := { program := "ytbhbmkkpbceebaa", sum := "84837c702d9543b4fafab63d522f4085e47944cf48e5d4fb3da47a8002f8ec99", func := "ravelin/ravelinlaw1.ArrBack", spec := "arrBack", apart := false }
def ArrBackSaid : Prop := arrBackRow.holds Try.pinned (OpenSpec.ofChange arrBackSpec)

/-- ITS FALSE NEIGHBOUR: 'it returns false'. Refute it at one input. -/
def arrBackWrong : ChangeSpec := { name := "arrBack", fn := fun _ => fun
  | [d] => { results := [.lit (.bool false)], args := [d] }
  | _ => none }
def ArrBackWrongFalsely : Prop := arrBackRow.holds Try.pinned (OpenSpec.ofChange arrBackWrong)

/-- 'ravelinlaw1.EachRing': WHATEVER THE INPUT: true; the input reads as it did. -/
def eachRingSpec : ChangeSpec := { name := "eachRing", fn := fun _ => fun
  | [d1, d2, d3] => { results := [.lit (.bool true)], args := [d1, d2, d3] }
  | _ => none }
def eachRingRow : OpenClaim := { program := "ytbhbmkkpbceebaa", sum := "84837c702d9543b4fafab63d522f4085e47944cf48e5d4fb3da47a8002f8ec99", func := "ravelin/ravelinlaw1.EachRing", spec := "eachRing", unfollowed := true, recurses := true, apart := false }
def EachRingSaid : Prop := eachRingRow.holds Try.pinned (OpenSpec.ofChange eachRingSpec)

/-- ITS FALSE NEIGHBOUR: 'it returns false'. Refute it at one input. -/
def eachRingWrong : ChangeSpec := { name := "eachRing", fn := fun _ => fun
  | [d1, d2, d3] => { results := [.lit (.bool false)], args := [d1, d2, d3] }
  | _ => none }
def EachRingWrongFalsely : Prop := eachRingRow.holds Try.pinned (OpenSpec.ofChange eachRingWrong)

/-- 'ravelinlaw1.EachRavels': WHATEVER THE INPUT: true; the input reads as it did. -/
def eachRavelsSpec : ChangeSpec := { name := "eachRavels", fn := fun _ => fun
  | [d1, d2, d3] => { results := [.lit (.bool true)], args := [d1, d2, d3] }
  | _ => none }
def eachRavelsRow : OpenClaim := { program := "ytbhbmkkpbceebaa", sum := "84837c702d9543b4fafab63d522f4085e47944cf48e5d4fb3da47a8002f8ec99", func := "ravelin/ravelinlaw1.EachRavels", spec := "eachRavels", unfollowed := true, recurses := true, apart := false }
def EachRavelsSaid : Prop := eachRavelsRow.holds Try.pinned (OpenSpec.ofChange eachRavelsSpec)

/-- ITS FALSE NEIGHBOUR: 'it returns false'. Refute it at one input. -/
def eachRavelsWrong : ChangeSpec := { name := "eachRavels", fn := fun _ => fun
  | [d1, d2, d3] => { results := [.lit (.bool false)], args := [d1, d2, d3] }
  | _ => none }
def EachRavelsWrongFalsely : Prop := eachRavelsRow.holds Try.pinned (OpenSpec.ofChange eachRavelsWrong)

/-- 'ravelinlaw1.EachSpreads': WHATEVER THE INPUT: true; the input reads as it did. -/
def eachSpreadsSpec : ChangeSpec := { name := "eachSpreads", fn := fun _ => fun
  | [d1, d2, d3] => { results := [.lit (.bool true)], args := [d1, d2, d3] }
  | _ => none }
def eachSpreadsRow : OpenClaim := { program := "ytbhbmkkpbceebaa", sum := "84837c702d9543b4fafab63d522f4085e47944cf48e5d4fb3da47a8002f8ec99", func := "ravelin/ravelinlaw1.EachSpreads", spec := "eachSpreads", unfollowed := true, recurses := true, apart := false }
def EachSpreadsSaid : Prop := eachSpreadsRow.holds Try.pinned (OpenSpec.ofChange eachSpreadsSpec)

/-- ITS FALSE NEIGHBOUR: 'it returns false'. Refute it at one input. -/
def eachSpreadsWrong : ChangeSpec := { name := "eachSpreads", fn := fun _ => fun
  | [d1, d2, d3] => { results := [.lit (.bool false)], args := [d1, d2, d3] }
  | _ => none }
def EachSpreadsWrongFalsely : Prop := eachSpreadsRow.holds Try.pinned (OpenSpec.ofChange eachSpreadsWrong)

/-- 'ravelinlaw1.EachSwaps': WHATEVER THE INPUT: true; the input reads as it did. -/
def eachSwapsSpec : ChangeSpec := { name := "eachSwaps", fn := fun _ => fun
  | [d1, d2] => { results := [.lit (.bool true)], args := [d1, d2] }
  | _ => none }
def eachSwapsRow : OpenClaim := { program := "ytbhbmkkpbceebaa", sum := "84837c702d9543b4fafab63d522f4085e47944cf48e5d4fb3da47a8002f8ec99", func := "ravelin/ravelinlaw1.EachSwaps", spec := "eachSwaps", unfollowed := true, recurses := true, apart := false }
def EachSwapsSaid : Prop := eachSwapsRow.holds Try.pinned (OpenSpec.ofChange eachSwapsSpec)

/-- ITS FALSE NEIGHBOUR: 'it returns false'. Refute it at one input. -/
def eachSwapsWrong : ChangeSpec := { name := "eachSwaps", fn := fun _ => fun
  | [d1, d2] => { results := [.lit (.bool false)], args := [d1, d2] }
  | _ => none }
def EachSwapsWrongFalsely : Prop := eachSwapsRow.holds Try.pinned (OpenSpec.ofChange eachSwapsWrong)

/- THE SECOND FORM. 'bulk': how many values and letters a reading holds, each counted each time it is reached (what is shared counts as often as it is met; a slice's spare places count too). A statement '..UptoSaid' is the law's where the arguments, and the package variables that the reading takes, are together of bulk at most 1048576: NARROWER than '..Said'. Prove '..Said' where nothing that the law and all that it calls make is longer than what came in: it says more and counts as full. Else prove '..UptoSaid'. A law counts once. -/
mutual
def uptoBulk {H : Type} : DataW H → Nat
  | .lit (.string bytes) => bytes.length + 1
  | .lit _ => 1
  | .nil => 1
  | .ptr d => uptoBulk d + 1
  | .slice elems spare => uptoBulkAll elems + uptoBulkAll spare + 1
  | .agg parts => uptoBulkAll parts + 1
  | .iface _ d => uptoBulk d + 1
  | .map entries => uptoBulkEntries entries + 1
  | .held _ => 1
def uptoBulkAll {H : Type} : List (DataW H) → Nat
  | [] => 0
  | d :: r => uptoBulk d + uptoBulkAll r
def uptoBulkEntries {H : Type} : List (Lit × DataW H) → Nat
  | [] => 0
  | x :: r => uptoBulkEntry x + uptoBulkEntries r
def uptoBulkEntry {H : Type} : Lit × DataW H → Nat
  | (.string bytes, d) => bytes.length + uptoBulk d + 1
  | (_, d) => uptoBulk d + 1
 end
def uptoSmall : (H : Type) → List (DataW H) → Bool := fun _ ds => decide (uptoBulkAll ds ≤ 1048576)
def OpenSpec.upto (s : _root_.Go.ChangeSpec) : _root_.Go.OpenSpec := { _root_.Go.OpenSpec.ofChange s with cond := some uptoSmall }

/-- 'ravelinlaw1.ArrSame', WHERE WHAT IT READS IS OF BULK AT MOST 1048576: true; the input reads as it did. -/
def arrSameUptoRow : OpenClaim := { program := "ytbhbmkkpbceebaa", sum := "84837c702d9543b4fafab63d522f4085e47944cf48e5d4fb3da47a8002f8ec99", func := "ravelin/ravelinlaw1.ArrSame", spec := "arrSame", apart := false, narrowed := true }
def ArrSameUptoSaid : Prop := arrSameUptoRow.holds Try.pinned (OpenSpec.upto arrSameSpec)

/-- 'ravelinlaw1.ArrCycles', WHERE WHAT IT READS IS OF BULK AT MOST 1048576: true; the input reads as it did. -/
def arrCyclesUptoRow : OpenClaim := { program := "ytbhbmkkpbceebaa", sum := "84837c702d9543b4fafab63d522f4085e47944cf48e5d4fb3da47a8002f8ec99", func := "ravelin/ravelinlaw1.ArrCycles", spec := "arrCycles", apart := false, narrowed := true }
def ArrCyclesUptoSaid : Prop := arrCyclesUptoRow.holds Try.pinned (OpenSpec.upto arrCyclesSpec)

/-- 'ravelinlaw1.ArrBack', WHERE WHAT IT READS IS OF BULK AT MOST 1048576: true; the input reads as it did. -/
def arrBackUptoRow : OpenClaim := { program := "ytbhbmkkpbceebaa", sum := "84837c702d9543b4fafab63d522f4085e47944cf48e5d4fb3da47a8002f8ec99", func := "ravelin/ravelinlaw1.ArrBack", spec := "arrBack", apart := false, narrowed := true }
def ArrBackUptoSaid : Prop := arrBackUptoRow.holds Try.pinned (OpenSpec.upto arrBackSpec)

/-- 'ravelinlaw1.EachRing', WHERE WHAT IT READS IS OF BULK AT MOST 1048576: true; the input reads as it did. -/
def eachRingUptoRow : OpenClaim := { program := "ytbhbmkkpbceebaa", sum := "84837c702d9543b4fafab63d522f4085e47944cf48e5d4fb3da47a8002f8ec99", func := "ravelin/ravelinlaw1.EachRing", spec := "eachRing", unfollowed := true, recurses := true, apart := false, narrowed := true }
def EachRingUptoSaid : Prop := eachRingUptoRow.holds Try.pinned (OpenSpec.upto eachRingSpec)

/-- 'ravelinlaw1.EachRavels', WHERE WHAT IT READS IS OF BULK AT MOST 1048576: true; the input reads as it did. -/
def eachRavelsUptoRow : OpenClaim := { program := "ytbhbmkkpbceebaa", sum := "84837c702d9543b4fafab63d522f4085e47944cf48e5d4fb3da47a8002f8ec99", func := "ravelin/ravelinlaw1.EachRavels", spec := "eachRavels", unfollowed := true, recurses := true, apart := false, narrowed := true }
def EachRavelsUptoSaid : Prop := eachRavelsUptoRow.holds Try.pinned (OpenSpec.upto eachRavelsSpec)

/-- 'ravelinlaw1.EachSpreads', WHERE WHAT IT READS IS OF BULK AT MOST 1048576: true; the input reads as it did. -/
def eachSpreadsUptoRow : OpenClaim := { program := "ytbhbmkkpbceebaa", sum := "84837c702d9543b4fafab63d522f4085e47944cf48e5d4fb3da47a8002f8ec99", func := "ravelin/ravelinlaw1.EachSpreads", spec := "eachSpreads", unfollowed := true, recurses := true, apart := false, narrowed := true }
def EachSpreadsUptoSaid : Prop := eachSpreadsUptoRow.holds Try.pinned (OpenSpec.upto eachSpreadsSpec)

/-- 'ravelinlaw1.EachSwaps', WHERE WHAT IT READS IS OF BULK AT MOST 1048576: true; the input reads as it did. -/
def eachSwapsUptoRow : OpenClaim := { program := "ytbhbmkkpbceebaa", sum := "84837c702d9543b4fafab63d522f4085e47944cf48e5d4fb3da47a8002f8ec99", func := "ravelin/ravelinlaw1.EachSwaps", spec := "eachSwaps", unfollowed := true, recurses := true, apart := false, narrowed := true }
def EachSwapsUptoSaid : Prop := eachSwapsUptoRow.holds Try.pinned (OpenSpec.upto eachSwapsSpec)

end Rows
end Go.Proofs.Ytbhbmkkpbceebaa
