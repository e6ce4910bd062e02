/- The inverse as a product. No program in sight; no condition. -/
import Derived.Test.YtcenhemlgapkeaaDoorOddPlain
import Derived.Test.YtcenhemlgapkeaaDoorBdQ
import Derived.Test.YtcenhemlgapkeaaDoorBdM
namespace Go.Proofs.YtcenhemlgapkeaaDoor
open Go.RowKit

/-- The inverse. -/
def invM (n : Nat) (A : Nat → Nat → Int) (i j : Nat) : Int := Mx.adj n A i j * newts (wrap64 (Mx.det n A)) 6
theorem inv_list {n : Nat} {A F : Nat → Nat → Int} (hF : ∀ i j, i < n → j < n → F i j = Mx.adj n A i j) :
    sqList n (timesM n F (unitM n (newts (wrap64 (Mx.det n A)) 6))) = sqList n (invM n A) := by
  refine sqList_congr fun i j hi hj => ?_
  unfold timesM
  rw [if_pos ⟨hi, hj⟩]
  show wrap64 (Mx.S n fun l => F i l * unitM n _ l j) = _
  rw [Mx.S_one (k := j) hj]
  · unfold unitM invM; rw [if_pos ⟨rfl, hj⟩, hF i j hi hj]
  · intro l hl hne
    unfold unitM; rw [if_neg (fun h => hne h.1)]; exact Int.mul_zero _
end Go.Proofs.YtcenhemlgapkeaaDoor
