/- What a row that lists both of the library's variables gives a walk, and a world that meets the condition. -/
import Derived.Test.YtiebknfmmanbiaaDoorDoorKit
import Derived.Test.YtiebknfmmanbiaaDoorDoorKitT
namespace Go.Proofs.YtiebknfmmanbiaaDoor
open Go.ChangeShapes Go.WideShapes Go.RowKit

/-- The list of the rows' listed variables. -/
abbrev laidList2 : List (String × DataW Unit) := [("math/bits.deBruijn32tab", Rows.laid_math_bits_deBruijn32tab), ("errors.errorType", Rows.laid_errors_errorType)]
theorem laid_of_met2 {W : World} (h : laidMetH Tryd.prog laidList2 W) : Laid W := by
  have h' : laidMet Tryd.prog laidListT W ∧ handlesMet Tryd.prog [("errors.errorType", Rows.laid_errors_errorType)] W := h
  exact laid_of_met (show laidMetH Tryd.prog laidList W from ⟨laidMet_nil _ _, h'.2⟩)
theorem tab_of_met2 {W : World} (h : laidMetH Tryd.prog laidList2 W) : Tab32 W := by
  have h' : laidMet Tryd.prog laidListT W ∧ handlesMet Tryd.prog [("errors.errorType", Rows.laid_errors_errorType)] W := h
  exact tab_of_met (show laidMetH Tryd.prog laidListT W from h'.1)
/-- A world that meets the condition: the settled one, both variables' cells laid. -/
noncomputable def laidWorld2 (os : Os) : World :=
  let w0 := laidWorldT os
  { w0 with heap := w0.heap.modify 3 fun
      | .cells _ t frozen => .cells #[.iface 170 (.agg #[.pointer (some ⟨4, 26, none⟩)])] t frozen
      | o => o }
theorem laidWorld2_met (os : Os) (args : Array Value) : laidMetH Tryd.prog laidList2 ((laidWorld2 os).forCall (fun _ _ => 0) ⟨#[], args, []⟩).memory :=
  laidMetH_of_parts (show laidMet Tryd.prog laidListT _ from laidMet_of_run' 8 (by kernel_rfl) (by kernel_rfl)) (by kernel_rfl)
end Go.Proofs.YtiebknfmmanbiaaDoor
