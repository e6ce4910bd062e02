/- The indices of a place (M.atp), as the program reckons them from the last axis on. No condition. -/
import Derived.Test.YtldhklbpmfckcaaDoorPlace
namespace Go.Proofs.YtldhklbpmfckcaaDoor
open Go.RowKit
namespace M

/-- The indices of place p, and what is left of p. -/
def coords : List Int → Int → List Int × Int
  | [], p => ([], p)
  | n :: s, p => ((coords s p).2 % n :: (coords s p).1, (coords s p).2 / n)

def atp (s : List Int) (p : Int) : Except Int (List Int) :=
  match count s with
  | .error e => .error e
  | .ok all => if p < 0 ∨ all ≤ p then .error 5 else .ok (coords s p).1

end M

theorem coords_length (s : List Int) (p : Int) : (M.coords s p).1.length = s.length := by
  induction s with
  | nil => rfl
  | cons n s ih => simp [M.coords, ih]

/-- What the slice holds when the axes from k on are done. -/
def atSoFar (s : List Int) (p : Int) (k : Nat) : List Int := List.replicate k 0 ++ (M.coords (s.drop k) p).1

theorem atSoFar_start (s : List Int) (p : Int) : atSoFar s p s.length = List.replicate s.length 0 := by simp [atSoFar, M.coords]
theorem atSoFar_end (s : List Int) (p : Int) : atSoFar s p 0 = (M.coords s p).1 := by simp [atSoFar]
theorem atSoFar_length (s : List Int) (p : Int) (k : Nat) (h : k ≤ s.length) : (atSoFar s p k).length = s.length := by
  simp [atSoFar, coords_length]; omega

theorem drop_coords {s : List Int} {k : Nat} (p : Int) (h : k < s.length) :
    M.coords (s.drop k) p = ((M.coords (s.drop (k + 1)) p).2 % s.getD k 0 :: (M.coords (s.drop (k + 1)) p).1, (M.coords (s.drop (k + 1)) p).2 / s.getD k 0) := by
  rw [List.drop_eq_getElem_cons h]; simp [M.coords, h]

theorem atSoFar_step {s : List Int} {k : Nat} (p : Int) (h : k < s.length) :
    (atSoFar s p (k + 1)).set k ((M.coords (s.drop (k + 1)) p).2 % s.getD k 0) = atSoFar s p k := by
  unfold atSoFar
  rw [drop_coords p h, List.set_append_left _ _ (by simp)]
  have : List.replicate (k + 1) (0 : Int) = List.replicate k 0 ++ [0] := List.replicate_succ'
  rw [this, List.set_append_right _ _ (by simp)]
  simp

/-- What is left stays between 0 and what it was. -/
theorem coords_left {s : List Int} (hs : ∀ x ∈ s, 1 ≤ x) {p : Int} (h0 : 0 ≤ p) : 0 ≤ (M.coords s p).2 ∧ (M.coords s p).2 ≤ p := by
  induction s with
  | nil => simp [M.coords, h0]
  | cons n s ih =>
    have hn := hs n (by simp)
    have h := ih fun x hx => hs x (by simp [hx])
    simp only [M.coords]
    exact ⟨Int.ediv_nonneg h.1 (by omega), Int.le_trans (Int.ediv_le_self _ h.1) h.2⟩

end Go.Proofs.YtldhklbpmfckcaaDoor
