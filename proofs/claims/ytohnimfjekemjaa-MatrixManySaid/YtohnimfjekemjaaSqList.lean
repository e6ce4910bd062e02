/- Squares as lists of cells, row by row; a matrix's rows and cells read off an array. No program in sight but for the cells' lay-out, no condition. -/
import Derived.Test.YtohnimfjekemjaaSq
import Derived.Test.YtohnimfjekemjaaArrP
namespace Go.Proofs.Ytohnimfjekemjaa
open Go.RowKit

/-- A square's cells, row by row. -/
def sqList (n : Nat) (A : Nat → Nat → Int) : List Int := (List.range (n * n)).map fun p => wrap64 (A (p / n) (p % n))
theorem sqList_length (n : Nat) (A : Nat → Nat → Int) : (sqList n A).length = n * n := by simp [sqList]
theorem sq_index_lt {n i j : Nat} (hi : i < n) (hj : j < n) : i * n + j < n * n := by
  have : (i + 1) * n ≤ n * n := Nat.mul_le_mul_right n hi
  rw [Nat.add_mul, Nat.one_mul] at this; omega
theorem sq_at_index {n p i j : Nat} (hj : j < n) : i * n + j = p ↔ i = p / n ∧ j = p % n := by
  constructor
  · intro h
    subst h
    rw [Nat.mul_comm, Nat.mul_add_div (by omega), Nat.div_eq_of_lt hj, Nat.mul_add_mod, Nat.mod_eq_of_lt hj]
    exact ⟨rfl, rfl⟩
  · rintro ⟨rfl, rfl⟩
    rw [Nat.mul_comm]; exact Nat.div_add_mod p n
theorem sqList_get {n : Nat} (A : Nat → Nat → Int) {i j : Nat} (hi : i < n) (hj : j < n) : (sqList n A).getD (i * n + j) 0 = wrap64 (A i j) := by
  have h := sq_index_lt hi hj
  have e := (sq_at_index (p := i * n + j) (i := i) hj).1 rfl
  rw [List.getD_eq_getElem?_getD]
  simp only [sqList, List.getElem?_map, List.getElem?_range h, Option.map_some, Option.getD_some]
  rw [← e.1, ← e.2]
theorem sqList_i64 (n : Nat) (A : Nat → Nat → Int) : All64 (sqList n A) := fun x hx => by
  obtain ⟨p, _, rfl⟩ := List.mem_map.1 hx
  exact I64_wrap _
theorem sqList_congr {n : Nat} {A B : Nat → Nat → Int} (h : ∀ i j, i < n → j < n → wrap64 (A i j) = wrap64 (B i j)) : sqList n A = sqList n B := by
  unfold sqList
  apply List.map_congr_left
  intro p hp
  have hp := List.mem_range.1 hp
  have hn : 0 < n := Nat.pos_of_ne_zero fun h => by subst h; simp at hp
  exact h _ _ (Nat.div_lt_of_lt_mul hp) (Nat.mod_lt _ hn)
/-- One row. -/
def sqRow (n : Nat) (A : Nat → Nat → Int) (i : Nat) : List Int := (List.range n).map fun j => wrap64 (A i j)
theorem sqRow_length (n : Nat) (A : Nat → Nat → Int) (i : Nat) : (sqRow n A i).length = n := by simp [sqRow]
theorem sqList_take {n : Nat} (A : Nat → Nat → Int) {i : Nat} (hi : i < n) : (sqList n A).take ((i + 1) * n) = (sqList n A).take (i * n) ++ sqRow n A i := by
  have h1 : (i + 1) * n ≤ n * n := Nat.mul_le_mul_right n hi
  have h2 : (i + 1) * n = i * n + n := by rw [Nat.add_mul, Nat.one_mul]
  apply List.ext_getElem?
  intro k
  rw [h2] at h1 ⊢
  rcases Nat.lt_or_ge k (i * n) with hk | hk
  · rw [List.getElem?_append_left (by rw [List.length_take, sqList_length]; omega), List.getElem?_take, List.getElem?_take, if_pos (by omega), if_pos hk]
  · rw [List.getElem?_append_right (by rw [List.length_take, sqList_length]; omega), List.length_take, sqList_length, Nat.min_eq_left (by omega), List.getElem?_take]
    rcases Nat.lt_or_ge k (i * n + n) with hk2 | hk2
    · obtain ⟨j, rfl⟩ : ∃ j, k = i * n + j := ⟨k - i * n, by omega⟩
      have hj : j < n := by omega
      have e := (sq_at_index (p := i * n + j) (i := i) hj).1 rfl
      rw [if_pos hk2, Nat.add_sub_cancel_left]
      simp only [sqList, sqRow, List.getElem?_map, List.getElem?_range (sq_index_lt hi hj), List.getElem?_range hj, Option.map_some]
      rw [← e.1, ← e.2]
    · rw [if_neg (by omega), List.getElem?_eq_none (by rw [sqRow_length]; omega)]

namespace M
/-- What is wrong with an array that should be a square of at most so many rows. -/
def sqFault (x : Arr) (most : Int) : Int :=
  if flaw x.ch x.s x.d ≠ 0 then flaw x.ch x.s x.d
  else if x.s.length ≠ 2 then 3
  else if x.s.getD 0 0 ≠ x.s.getD 1 0 then 4
  else if most < x.s.getD 0 0 then 7
  else if x.ch = true then 6
  else 0
/-- How many rows. -/
def sqN (x : Arr) : Nat := (x.s.getD 0 0).toNat
/-- The number at a place. -/
def sqA (n : Nat) (d : List Int) (i j : Nat) : Int := if i < n ∧ j < n then d.getD (i * n + j) 0 else 0
end M

/-- A list's own square. -/
theorem sqList_self {n : Nat} {d : List Int} (h : d.length = n * n) (hd : All64 d) : sqList n (M.sqA n d) = d := by
  apply List.ext_getElem
  · rw [sqList_length, h]
  · intro p h1 h2
    have hp : p < n * n := by omega
    have hn : 0 < n := Nat.pos_of_ne_zero fun h => by subst h; simp at hp
    have q1 : p / n < n := Nat.div_lt_of_lt_mul hp
    have q2 : p % n < n := Nat.mod_lt _ hn
    have q3 : p / n * n + p % n = p := by rw [Nat.mul_comm]; exact Nat.div_add_mod p n
    simp only [sqList, List.getElem_map, List.getElem_range, M.sqA]
    rw [if_pos ⟨q1, q2⟩, q3, List.getD_eq_getElem?_getD, List.getElem?_eq_getElem h2, Option.getD_some]
    exact wrap_id (hd _ (List.getElem_mem h2))

end Go.Proofs.Ytohnimfjekemjaa
