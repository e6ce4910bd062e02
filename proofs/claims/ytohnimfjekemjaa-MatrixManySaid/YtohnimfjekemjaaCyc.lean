/- A list again and again, as plain data. No condition. -/
import Derived.Test.YtohnimfjekemjaaKit
namespace Go.Proofs.Ytohnimfjekemjaa
open Go.RowKit

namespace M
/-- A list again and again; of nothing it is z. -/
def cycle (d : List Int) (n : Nat) (z : Int) : List Int := (List.range n).map fun i => if d.length = 0 then z else d.getD (i % d.length) 0
end M

theorem cycle_succ (d : List Int) (n : Nat) (z : Int) : M.cycle d (n + 1) z = M.cycle d n z ++ [if d.length = 0 then z else d.getD (n % d.length) 0] := by
  simp [M.cycle, List.range_succ]
theorem cycle_length (d : List Int) (n : Nat) (z : Int) : (M.cycle d n z).length = n := by simp [M.cycle]

end Go.Proofs.Ytohnimfjekemjaa
