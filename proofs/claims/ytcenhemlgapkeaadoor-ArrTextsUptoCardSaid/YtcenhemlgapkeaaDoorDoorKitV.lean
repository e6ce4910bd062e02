/- What a row that lists the tables of utf8 and the library's one variable gives a walk, and a world that meets the condition. -/
import Derived.Test.YtcenhemlgapkeaaDoorDoorKit
import Derived.Test.YtcenhemlgapkeaaDoorDoorKitU
namespace Go.Proofs.YtcenhemlgapkeaaDoor
open Go.ChangeShapes Go.WideShapes Go.RowKit

/-- The list of the rows' listed variables. -/
abbrev laidListV : List (String × DataW Unit) := [("unicode/utf8.acceptRanges", Rows.laid_unicode_utf8_acceptRanges), ("errors.errorType", Rows.laid_errors_errorType), ("unicode/utf8.first", Rows.laid_unicode_utf8_first)]
theorem parts_of_metV {W : World} (h : laidMetH Tryd.prog laidListV W) : laidMet Tryd.prog [("unicode/utf8.acceptRanges", (Rows.laid_unicode_utf8_acceptRanges : DataW Unit)), ("unicode/utf8.first", Rows.laid_unicode_utf8_first)] W ∧ handlesMet Tryd.prog [("errors.errorType", Rows.laid_errors_errorType)] W := h
theorem laid_of_metV {W : World} (h : laidMetH Tryd.prog laidListV W) : Laid W := laid_of_met (show laidMetH Tryd.prog laidList W from ⟨laidMet_nil _ _, (parts_of_metV h).2⟩)
theorem tabs8_of_metV {W : World} (h : laidMetH Tryd.prog laidListV W) : Tabs8 W := tabs8_of_reads (parts_of_metV h).1
/-- A world that meets the condition: the settled one, all three variables' cells laid. -/
noncomputable def laidWorldV (os : Os) : World :=
  let w0 := laidWorldU os
  { w0 with heap := w0.heap.modify 2 fun
      | .cells _ t frozen => .cells #[.iface 143 (.agg #[.pointer (some ⟨3, 26, none⟩)])] t frozen
      | o => o }
theorem laidWorldV_met (os : Os) (args : Array Value) : laidMetH Tryd.prog laidListV ((laidWorldV os).forCall (fun _ _ => 0) ⟨#[], args, []⟩).memory :=
  laidMetH_of_parts (show laidMet Tryd.prog [("unicode/utf8.acceptRanges", (Rows.laid_unicode_utf8_acceptRanges : DataW Unit)), ("unicode/utf8.first", Rows.laid_unicode_utf8_first)] _ from laidMet_of_run' 8 (by kernel_rfl) (by kernel_rfl)) (by kernel_rfl)
end Go.Proofs.YtcenhemlgapkeaaDoor
