/- A shape with its axes in another order (M.axes), as the program finds it. No condition. -/
import Derived.Test.YtiebknfmmanbiaaBdA
namespace Go.Proofs.Ytiebknfmmanbiaa
open Go.RowKit
namespace M

/-- The axes so far: out, and which are taken (the list of those that have come). -/
def axesFrom (s : List Int) : List Int → Nat → List Int → List Int → Except Int (List Int)
  | out, _, _, [] => .ok out
  | out, k, taken, to :: p => if to < 0 ∨ (s.length : Int) ≤ to ∨ to ∈ taken then .error 5 else axesFrom s (out.set to.toNat (s.getD k 0)) (k + 1) (taken ++ [to]) p

def axes (s p : List Int) : Except Int (List Int) :=
  match count s with
  | .error e => .error e
  | .ok _ => if p.length ≠ s.length then .error 4 else axesFrom s (List.replicate s.length 0) 0 [] p

end M

theorem axesFrom_drop {s p : List Int} {k : Nat} (out taken : List Int) (h : k < p.length) :
    M.axesFrom s out k taken (p.drop k) = if p.getD k 0 < 0 ∨ (s.length : Int) ≤ p.getD k 0 ∨ p.getD k 0 ∈ taken then .error 5
      else M.axesFrom s (out.set (p.getD k 0).toNat (s.getD k 0)) (k + 1) (taken ++ [p.getD k 0]) (p.drop (k + 1)) := by
  rw [List.drop_eq_getElem_cons h]; simp [M.axesFrom, List.getD_eq_getElem?_getD, h]

end Go.Proofs.Ytiebknfmmanbiaa
