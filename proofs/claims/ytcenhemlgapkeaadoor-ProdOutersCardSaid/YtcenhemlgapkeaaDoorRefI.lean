/- A result of the document's: a number and the number of an error. -/
import Derived.Test.YtcenhemlgapkeaaDoorBdA
namespace Go.Proofs.YtcenhemlgapkeaaDoor

/-- A number and the number of an error. -/
def refI : Except Int Int → Value
  | .ok n => .tuple #[.int .i64 n, .int .i64 0]
  | .error e => .tuple #[.int .i64 0, .int .i64 e]

end Go.Proofs.YtcenhemlgapkeaaDoor
