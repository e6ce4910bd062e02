/- What a row that lists the library's table of TrailingZeros32 gives a walk, and a world that meets the condition. -/
import Derived.Test.YtiebknfmmanbiaaDoorRows
import Derived.Test.YtiebknfmmanbiaaDoorWkTz
import Derived.ChangeSame
import Derived.ChangeVars
import Derived.JoinedOf
import Derived.RowKit
import Derived.RowKitTokens
import Derived.LaidLaws
import Derived.LaidHandle
import Derived.Stop.Joined
import Derived.Lib.LaidTab
namespace Go.Proofs.YtiebknfmmanbiaaDoor
open Go.ChangeShapes Go.WideShapes Go.RowKit

/-- The table, as integers. -/
def tabInts : List Int := Lib.deBruijn32tab.map fun (m : Nat) => (m : Int)
theorem tabInts_get : ∀ j, j < 32 → tabInts.getD j 0 = ((Lib.deBruijn32tab.getD j 0 : Nat) : Int) := by decide

/-- The list of the rows' listed variables. -/
abbrev laidListT : List (String × DataW Unit) := [("math/bits.deBruijn32tab", Rows.laid_math_bits_deBruijn32tab)]

theorem tab_of_met {W : World} (h : laidMetH Tryd.prog laidListT W) : Tab32 W := by
  have h' : laidMet Tryd.prog [("math/bits.deBruijn32tab", Lib.tabData .u8 tabInts)] W := h
  have hn : Tryd.prog.globalNamed "math/bits.deBruijn32tab" = some 2 := by kernel_rfl
  have hT := Lib.tabIs_of_head (t := 141) (e := 5) (n := 32) hn (by kernel_rfl) (by kernel_rfl) (by kernel_rfl) (by kernel_rfl) (by kernel_rfl) h'
  intro j hj
  rw [hT.cell hn j hj, tabInts_get j hj]

/-- A world that meets the condition: the settled one, the variable's cells laid. -/
noncomputable def laidWorldT (os : Os) : World :=
  let w0 := World.holding Tryd.prog os ⟨#[], #[], []⟩
  { w0 with heap := w0.heap.modify 2 fun
      | .cells _ t frozen => .cells (tabInts.map fun z => Value.int .u8 z).toArray t frozen
      | o => o }
theorem laidWorldT_met (os : Os) (args : Array Value) : laidMetH Tryd.prog laidListT ((laidWorldT os).forCall (fun _ _ => 0) ⟨#[], args, []⟩).memory :=
  show laidMet Tryd.prog laidListT _ from laidMet_of_run' 8 (by kernel_rfl) (by kernel_rfl)
end Go.Proofs.YtiebknfmmanbiaaDoor
