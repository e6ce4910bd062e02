/- How many cells a shape has (M.count), as the program counts them, and two facts on its loops. No condition. -/
import Derived.Test.YtohnimfjekemjaaKit
namespace Go.Proofs.Ytohnimfjekemjaa
open Go.RowKit
namespace M

/-- The first length that may not be. -/
def badLen : List Int → Int
  | [] => 0
  | n :: r => if n < 0 then 4 else if 4096 < n then 7 else badLen r

def mulUp : Int → List Int → Except Int Int
  | a, [] => .ok a
  | a, n :: r => if 4096 < a * n then .error 7 else mulUp (a * n) r

def count (s : List Int) : Except Int Int :=
  if 6 < s.length then .error 3
  else if badLen s ≠ 0 then .error (badLen s)
  else if 0 ∈ s then .ok 0
  else mulUp 1 s

end M

theorem badLen_drop {s : List Int} {k : Nat} (h : k < s.length) :
    M.badLen (s.drop k) = if s.getD k 0 < 0 then 4 else if 4096 < s.getD k 0 then 7 else M.badLen (s.drop (k + 1)) := by
  rw [List.drop_eq_getElem_cons h]; simp [M.badLen, List.getD_eq_getElem?_getD, h]

theorem mulUp_drop {s : List Int} {k : Nat} (a : Int) (h : k < s.length) :
    M.mulUp a (s.drop k) = if 4096 < a * s.getD k 0 then .error 7 else M.mulUp (a * s.getD k 0) (s.drop (k + 1)) := by
  rw [List.drop_eq_getElem_cons h]; simp [M.mulUp, List.getD_eq_getElem?_getD, h]

theorem badLen_zero {s : List Int} (h : M.badLen s = 0) : ∀ x ∈ s, 0 ≤ x ∧ x ≤ 4096 := by
  induction s with
  | nil => simp
  | cons n r ih =>
    simp only [M.badLen] at h
    split at h
    · simp at h
    · split at h
      · simp at h
      · intro x hx
        simp only [List.mem_cons] at hx
        rcases hx with rfl | hx
        · omega
        · exact ih h x hx

end Go.Proofs.Ytohnimfjekemjaa
