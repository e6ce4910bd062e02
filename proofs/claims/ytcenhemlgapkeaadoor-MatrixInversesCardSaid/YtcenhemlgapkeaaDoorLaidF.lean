/- The library's one variable, as a fact of a world. No condition. -/
import Derived.Test.YtcenhemlgapkeaaDoorBdB
import Derived.Test.YtcenhemlgapkeaaDoorTold
namespace Go.Proofs.YtcenhemlgapkeaaDoor
open Go.RowKit

/-- The library's one variable, as a fact. -/
abbrev laidF : Fact := .word ⟨2, 0, none⟩ 143 (.agg #[.pointer (some ⟨3, 26, none⟩)])

theorem Env.laid {w0 w : World} {L : List Fact} (h : Env w0 w L) (i : Nat) (hi : L[i]? = some laidF) : Laid w := h.getWord i hi

end Go.Proofs.YtcenhemlgapkeaaDoor
