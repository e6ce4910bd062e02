/- The library's one variable, as a fact of a world. No condition. -/
import Derived.Test.YtiebknfmmanbiaaDoorBdB
import Derived.Test.YtiebknfmmanbiaaDoorTold
namespace Go.Proofs.YtiebknfmmanbiaaDoor
open Go.RowKit

/-- The library's one variable, as a fact. -/
abbrev laidF : Fact := .word ⟨3, 0, none⟩ 170 (.agg #[.pointer (some ⟨4, 26, none⟩)])

theorem Env.laid {w0 w : World} {L : List Fact} (h : Env w0 w L) (i : Nat) (hi : L[i]? = some laidF) : Laid w := h.getWord i hi

end Go.Proofs.YtiebknfmmanbiaaDoor
