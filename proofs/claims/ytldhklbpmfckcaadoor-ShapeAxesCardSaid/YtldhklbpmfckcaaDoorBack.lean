/- An order turned round (M.backwards), as the statements' helper finds it. No condition. -/
import Derived.Test.YtldhklbpmfckcaaDoorKit
namespace Go.Proofs.YtldhklbpmfckcaaDoor
open Go.RowKit
namespace M

def backFrom (n : Nat) : List Int → Nat → List Int → List Int
  | out, _, [] => out
  | out, i, x :: p => backFrom n (if 0 ≤ x ∧ x < (n : Int) then out.set x.toNat (i : Int) else out) (i + 1) p

def backwards (p : List Int) : List Int := backFrom p.length (List.replicate p.length 0) 0 p

end M

theorem backFrom_drop {p : List Int} {k : Nat} (n : Nat) (out : List Int) (h : k < p.length) :
    M.backFrom n out k (p.drop k) = M.backFrom n (if 0 ≤ p.getD k 0 ∧ p.getD k 0 < (n : Int) then out.set (p.getD k 0).toNat (k : Int) else out) (k + 1) (p.drop (k + 1)) := by
  rw [List.drop_eq_getElem_cons h]; simp [M.backFrom, List.getD_eq_getElem?_getD, h]

end Go.Proofs.YtldhklbpmfckcaaDoor
