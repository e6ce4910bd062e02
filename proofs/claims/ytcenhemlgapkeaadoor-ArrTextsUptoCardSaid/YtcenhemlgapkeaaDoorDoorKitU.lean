/- What a row that lists the library's two tables of utf8 gives a walk, and a world that meets the condition. -/
import Derived.Test.YtcenhemlgapkeaaDoorRows
import Derived.Test.YtcenhemlgapkeaaDoorU8
import Derived.ChangeSame
import Derived.ChangeVars
import Derived.JoinedOf
import Derived.RowKit
import Derived.RowKitTokens
import Derived.LaidLaws
import Derived.LaidHandle
import Derived.Stop.Joined
import Derived.Lib.LaidTab
import Derived.Lib.LaidIn
namespace Go.Proofs.YtcenhemlgapkeaaDoor
open Go.ChangeShapes Go.WideShapes Go.RowKit Go.Shelf

/-- The list of the rows' listed variables. -/
abbrev laidListU : List (String × DataW Unit) := [("unicode/utf8.acceptRanges", Rows.laid_unicode_utf8_acceptRanges), ("unicode/utf8.first", Rows.laid_unicode_utf8_first)]
theorem laidU_accept : (Rows.laid_unicode_utf8_acceptRanges : DataW Unit) = Lib.acceptData := by kernel_rfl
theorem laidU_first : Rows.laid_unicode_utf8_first = Lib.firstData := by kernel_rfl
theorem tabs8_of_reads {W : World} (h : laidMet Tryd.prog [("unicode/utf8.acceptRanges", (Rows.laid_unicode_utf8_acceptRanges : DataW Unit)), ("unicode/utf8.first", Rows.laid_unicode_utf8_first)] W) : Tabs8 W := by
  rw [laidU_accept, laidU_first] at h
  exact utf8Tabs_of_readsT (U8Types.of196 u8Lays) ⟨by kernel_rfl, by kernel_rfl, by kernel_rfl, by kernel_rfl, by kernel_rfl, by kernel_rfl, by kernel_rfl⟩ (Lib.laidMet.reads h (.tail _ (.head _))) (Lib.laidMet.reads h (.head _))
theorem tabs8_of_met {W : World} (h : laidMetH Tryd.prog laidListU W) : Tabs8 W := by
  have h' : laidMet Tryd.prog [("unicode/utf8.acceptRanges", (Rows.laid_unicode_utf8_acceptRanges : DataW Unit)), ("unicode/utf8.first", Rows.laid_unicode_utf8_first)] W := h
  exact tabs8_of_reads h'

/-- A world that meets the condition: the settled one, the two variables' cells laid. -/
noncomputable def laidWorldU (os : Os) : World :=
  let w0 := World.holding Tryd.prog os ⟨#[], #[], []⟩
  let put (h : Array Obj) (g : Nat) (cs : Array Value) : Array Obj := h.modify g fun
    | .cells _ t frozen => .cells cs t frozen
    | o => o
  let h1 := put w0.heap 0 (Lib.firstTab.map fun z => Value.int .u8 z).toArray
  let h2 := put h1 1 ((List.range 16).flatMap fun i => [Value.int .u8 (Lib.accLo i), Value.int .u8 (Lib.accHi i)]).toArray
  { w0 with heap := h2 }
theorem laidWorldU_met (os : Os) (args : Array Value) : laidMetH Tryd.prog laidListU ((laidWorldU os).forCall (fun _ _ => 0) ⟨#[], args, []⟩).memory :=
  show laidMet Tryd.prog laidListU _ from laidMet_of_run' 8 (by kernel_rfl) (by kernel_rfl)
end Go.Proofs.YtcenhemlgapkeaaDoor
