/- Where a cell lies (M.place), as the program reckons it, and one fact on its loop. No condition. -/
import Derived.Test.YtohnimfjekemjaaCount
namespace Go.Proofs.Ytohnimfjekemjaa
open Go.RowKit
namespace M

/-- The place so far p; the lengths and indices that are left. -/
def placeFrom : Int → List Int → List Int → Except Int Int
  | p, n :: s, i :: t => if i < 0 ∨ n ≤ i then .error 5 else placeFrom (wrap64 (wrap64 (p * n) + i)) s t
  | p, _, _ => .ok p

def place (s t : List Int) : Except Int Int :=
  match count s with
  | .error e => .error e
  | .ok _ => if t.length ≠ s.length then .error 3 else placeFrom 0 s t

end M

theorem placeFrom_drop {s t : List Int} {k : Nat} (p : Int) (h : k < s.length) (g : k < t.length) :
    M.placeFrom p (s.drop k) (t.drop k) = if t.getD k 0 < 0 ∨ s.getD k 0 ≤ t.getD k 0 then .error 5
      else M.placeFrom (wrap64 (wrap64 (p * s.getD k 0) + t.getD k 0)) (s.drop (k + 1)) (t.drop (k + 1)) := by
  rw [List.drop_eq_getElem_cons h, List.drop_eq_getElem_cons g]; simp [M.placeFrom, List.getD_eq_getElem?_getD, h, g]

end Go.Proofs.Ytohnimfjekemjaa
