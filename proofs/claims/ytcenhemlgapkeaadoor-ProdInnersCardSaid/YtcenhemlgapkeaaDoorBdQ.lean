/- Texts that lie in one file: what is plain, rows, boxes, squares, and what is known of a world. No condition. -/
import Derived.Test.YtcenhemlgapkeaaDoorBdM
import Derived.Test.YtcenhemlgapkeaaDoorBdA
import Derived.Laws.Rows
import Derived.Laws.Tables
import Derived.Test.YtcenhemlgapkeaaDoorOwnAt
/- Squares of at most six rows, as cells: whole numbers at the cells, wrapped. No condition. -/
namespace Go.Proofs.YtcenhemlgapkeaaDoor
open Go.RowKit

/-- A square's cells: the number of rows, and 36 numbers, row by row. -/
def sqCells (n : Nat) (A : Nat → Nat → Int) : Array Value := (Value.int .i64 (n : Int) :: (List.range 36).map fun p => Value.int .i64 (wrap64 (A (p / 6) (p % 6)))).toArray

theorem sq_size (n : Nat) (A : Nat → Nat → Int) : (sqCells n A).size = 37 := by simp [sqCells]
theorem sq_one (n : Nat) (A : Nat → Nat → Int) : (sqCells n A).all (·.oneCell') = true := by simp [sqCells, Value.oneCell']

theorem sq_get0 (n : Nat) (A : Nat → Nat → Int) : (sqCells n A)[0]? = some (.int .i64 (n : Int)) := by simp [sqCells]
theorem sq_get (n : Nat) (A : Nat → Nat → Int) {i j : Nat} (hi : i < 6) (hj : j < 6) : (sqCells n A)[1 + i * 6 + j]? = some (.int .i64 (wrap64 (A i j))) := by
  have h1 : 1 + i * 6 + j = (6 * i + j) + 1 := by omega
  have h2 : (6 * i + j) / 6 = i := by omega
  have h3 : (6 * i + j) % 6 = j := by omega
  rw [h1]
  simp only [sqCells, List.getElem?_toArray, List.getElem?_cons_succ, List.getElem?_map]
  rw [List.getElem?_range (by omega)]
  simp only [Option.map_some, h2, h3]

/-- Another number at a place. -/
def put (A : Nat → Nat → Int) (i j : Nat) (v : Int) (a b : Nat) : Int := if a = i ∧ b = j then v else A a b

theorem sq_put (n : Nat) (A : Nat → Nat → Int) {i j : Nat} (hi : i < 6) (hj : j < 6) (v : Int) : (sqCells n A).setIfInBounds (1 + i * 6 + j) (.int .i64 (wrap64 v)) = sqCells n (put A i j v) := by
  apply Array.toList_inj.1
  apply List.ext_getElem
  · simp [sqCells]
  · intro k h1 h2
    have hk : k < 37 := by simpa [sqCells] using h2
    simp only [Array.toList_setIfInBounds, List.getElem_set]
    cases k with
    | zero =>
      rw [if_neg (by omega)]
      simp [sqCells]
    | succ p =>
      simp only [sqCells, List.getElem_cons_succ, List.getElem_map, List.getElem_range, put]
      by_cases e : 1 + i * 6 + j = p + 1
      · rw [if_pos e, if_pos (by omega)]
      · rw [if_neg e, if_neg (by omega)]

theorem sq_cell0 {W : World} {b : Nat} {e : TypeId} {n : Nat} {A : Nat → Nat → Int} (h : W.heap[b]? = some (.cells (sqCells n A) e (0, 0))) : W.cell? ⟨b, 0, none⟩ = some (.int .i64 (n : Int)) := by
  rw [cell_of_row W b 0 _ e (0, 0) h]; exact sq_get0 n A
theorem sq_cell {W : World} {b : Nat} {e : TypeId} {n : Nat} {A : Nat → Nat → Int} (h : W.heap[b]? = some (.cells (sqCells n A) e (0, 0))) {i j : Nat} (hi : i < 6) (hj : j < 6) :
    W.cell? ⟨b, 1 + i * 6 + j, none⟩ = some (.int .i64 (wrap64 (A i j))) := by
  rw [cell_of_row W b _ _ e (0, 0) h]; exact sq_get n A hi hj
theorem sq_set {W : World} {b : Nat} {e : TypeId} {n : Nat} {A : Nat → Nat → Int} (h : W.heap[b]? = some (.cells (sqCells n A) e (0, 0))) {i j : Nat} (hi : i < 6) (hj : j < 6) (v : Int) :
    (W.setCell ⟨b, 1 + i * 6 + j, none⟩ (.int .i64 (wrap64 v))).heap[b]? = some (.cells (sqCells n (put A i j v)) e (0, 0)) := by
  rw [heap_setCell_same W b _ _ e _ h, sq_put n A hi hj]

theorem sq_congr {n : Nat} {A B : Nat → Nat → Int} (h : ∀ i j, i < 6 → j < 6 → wrap64 (A i j) = wrap64 (B i j)) : sqCells n A = sqCells n B := by
  unfold sqCells
  congr 1
  congr 1
  apply List.map_congr_left
  intro p hp
  have := List.mem_range.1 hp
  rw [h (p / 6) (p % 6) (by omega) (by omega)]

def zeroM (_ _ : Nat) : Int := 0
theorem wrap_zero : wrap64 0 = 0 := wrap_id (by unfold I64; omega)
theorem sq_zero_lit (n : Nat) : sqCells n zeroM = #[.int .i64 (n : Int), .int .i64 0, .int .i64 0, .int .i64 0, .int .i64 0, .int .i64 0, .int .i64 0, .int .i64 0, .int .i64 0, .int .i64 0, .int .i64 0, .int .i64 0, .int .i64 0, .int .i64 0, .int .i64 0, .int .i64 0, .int .i64 0, .int .i64 0, .int .i64 0, .int .i64 0, .int .i64 0, .int .i64 0, .int .i64 0, .int .i64 0, .int .i64 0, .int .i64 0, .int .i64 0, .int .i64 0, .int .i64 0, .int .i64 0, .int .i64 0, .int .i64 0, .int .i64 0, .int .i64 0, .int .i64 0, .int .i64 0, .int .i64 0] := by
  unfold sqCells zeroM
  rw [wrap_zero]
  rfl
theorem Tryd.infoSq : (Tryd.prog.info? 73).map (·.size) = some 37 := by kernel_rfl
theorem Tryd.zeroSq0 : (Tryd.prog.info? 73).bind (·.zero) = some (.agg #[.int .i64 0, .int .i64 0, .int .i64 0, .int .i64 0, .int .i64 0, .int .i64 0, .int .i64 0, .int .i64 0, .int .i64 0, .int .i64 0, .int .i64 0, .int .i64 0, .int .i64 0, .int .i64 0, .int .i64 0, .int .i64 0, .int .i64 0, .int .i64 0, .int .i64 0, .int .i64 0, .int .i64 0, .int .i64 0, .int .i64 0, .int .i64 0, .int .i64 0, .int .i64 0, .int .i64 0, .int .i64 0, .int .i64 0, .int .i64 0, .int .i64 0, .int .i64 0, .int .i64 0, .int .i64 0, .int .i64 0, .int .i64 0, .int .i64 0]) := by kernel_rfl
theorem Tryd.zeroSq : (Tryd.prog.info? 73).bind (·.zero) = some (.agg (sqCells 0 zeroM)) := by rw [sq_zero_lit 0]; exact Tryd.zeroSq0
theorem Tryd.builtSq0 (v : Int) : Tryd.prog.built 73 [(0, .int .i64 v)] = some #[.int .i64 v, .int .i64 0, .int .i64 0, .int .i64 0, .int .i64 0, .int .i64 0, .int .i64 0, .int .i64 0, .int .i64 0, .int .i64 0, .int .i64 0, .int .i64 0, .int .i64 0, .int .i64 0, .int .i64 0, .int .i64 0, .int .i64 0, .int .i64 0, .int .i64 0, .int .i64 0, .int .i64 0, .int .i64 0, .int .i64 0, .int .i64 0, .int .i64 0, .int .i64 0, .int .i64 0, .int .i64 0, .int .i64 0, .int .i64 0, .int .i64 0, .int .i64 0, .int .i64 0, .int .i64 0, .int .i64 0, .int .i64 0, .int .i64 0] := by kernel_rfl
theorem Tryd.builtSq (n : Nat) : Tryd.prog.built 73 [(0, .int .i64 (n : Int))] = some (sqCells n zeroM) := (Tryd.builtSq0 n).trans (congrArg some (sq_zero_lit n).symm)
theorem infoSq' (n : Nat) (A : Nat → Nat → Int) : (Tryd.prog.info? 73).map (·.size) = some (sqCells n A).size := by rw [sq_size]; exact Tryd.infoSq
theorem sizeSq (n m : Nat) (A B : Nat → Nat → Int) : (sqCells n A).size = (sqCells m B).size := by rw [sq_size, sq_size]

end Go.Proofs.YtcenhemlgapkeaaDoor

/- Squares being multiplied, added to, turned about: the states of the loops as whole-number squares. No program in sight, no condition. -/
namespace Go.Proofs.YtcenhemlgapkeaaDoor

/-- The product so far: the rows below i are told, of row i the places below j, of place (i, j) the first k products. -/
def tms (n : Nat) (A B : Nat → Nat → Int) (i j k a b : Nat) : Int :=
  if (a < i ∨ (a = i ∧ b < j)) ∧ b < n then Mx.mul n A B a b else if a = i ∧ b = j then Mx.S k (fun t => A i t * B t j) else 0
theorem tms_zero (n : Nat) (A B : Nat → Nat → Int) : tms n A B 0 0 0 = zeroM := by
  funext a b
  unfold tms zeroM
  rw [if_neg (by omega)]
  split <;> rfl
theorem tms_step (n : Nat) (A B : Nat → Nat → Int) (i j k : Nat) : put (tms n A B i j k) i j (tms n A B i j k i j + A i k * B k j) = tms n A B i j (k + 1) := by
  have e : ∀ k, tms n A B i j k i j = Mx.S k (fun t => A i t * B t j) := fun k => by unfold tms; rw [if_neg (by omega), if_pos ⟨rfl, rfl⟩]
  funext a b
  unfold put
  by_cases h : a = i ∧ b = j
  · rw [if_pos h, e, h.1, h.2, e]; rfl
  · rw [if_neg h]; unfold tms; rw [if_neg h, if_neg h]
theorem tms_next (n : Nat) (A B : Nat → Nat → Int) {i j : Nat} (hj : j < n) : tms n A B i j n = tms n A B i (j + 1) 0 := by
  funext a b
  unfold tms
  by_cases h : a = i ∧ b = j
  · rw [if_neg (by omega), if_pos h, if_pos (by omega), h.1, h.2]; rfl
  · rw [if_neg h]
    by_cases h2 : (a < i ∨ (a = i ∧ b < j)) ∧ b < n
    · rw [if_pos h2, if_pos (by omega)]
    · rw [if_neg h2, if_neg (by omega)]; split <;> rfl
theorem tms_row (n : Nat) (A B : Nat → Nat → Int) (i : Nat) : tms n A B i n 0 = tms n A B (i + 1) 0 0 := by
  funext a b
  unfold tms
  by_cases h2 : (a < i ∨ (a = i ∧ b < n)) ∧ b < n
  · rw [if_pos h2, if_pos (by omega)]
  · have h3 : ¬((a < i + 1 ∨ (a = i + 1 ∧ b < 0)) ∧ b < n) := by omega
    have e : ∀ t : Nat → Int, Mx.S 0 t = 0 := fun _ => rfl
    rw [if_neg h2, if_neg h3]
    simp only [e, ite_self]
/-- A square's product. -/
def timesM (n : Nat) (A B : Nat → Nat → Int) (a b : Nat) : Int := if a < n ∧ b < n then Mx.mul n A B a b else 0
theorem tms_end (n : Nat) (A B : Nat → Nat → Int) : tms n A B n 0 0 = timesM n A B := by
  funext a b
  unfold tms timesM
  by_cases h2 : a < n ∧ b < n
  · rw [if_pos (by omega), if_pos h2]
  · rw [if_neg (by omega), if_neg h2]; split <;> rfl

/-- Added to the diagonal's first k. -/
def plusM (A : Nat → Nat → Int) (k : Nat) (d : Int) (a b : Nat) : Int := if a = b ∧ a < k then A a b + d else A a b
theorem plus_zero (A : Nat → Nat → Int) (d : Int) : plusM A 0 d = A := by funext a b; unfold plusM; rw [if_neg (by omega)]
theorem plus_step (A : Nat → Nat → Int) (k : Nat) (d : Int) : put (plusM A k d) k k (plusM A k d k k + d) = plusM A (k + 1) d := by
  funext a b
  unfold put plusM
  by_cases h : a = k ∧ b = k
  · rw [if_pos h, if_neg (by omega), if_pos (by omega), h.1, h.2]
  · rw [if_neg h]
    by_cases h2 : a = b ∧ a < k
    · rw [if_pos h2, if_pos (by omega)]
    · rw [if_neg h2, if_neg (by omega)]
/-- The unit's first k, d-fold. -/
def unitM (k : Nat) (d : Int) (a b : Nat) : Int := if a = b ∧ a < k then d else 0
theorem unit_zero (d : Int) : unitM 0 d = zeroM := by funext a b; unfold unitM zeroM; rw [if_neg (by omega)]
theorem unit_step (k : Nat) (d : Int) : put (unitM k d) k k d = unitM (k + 1) d := by
  funext a b
  unfold put unitM
  by_cases h : a = k ∧ b = k
  · rw [if_pos h, if_pos (by omega)]
  · rw [if_neg h]
    by_cases h2 : a = b ∧ a < k
    · rw [if_pos h2, if_pos (by omega)]
    · rw [if_neg h2, if_neg (by omega)]
/-- The signs turned, of the rows below i and of row i the places below j. -/
def negM (n : Nat) (A : Nat → Nat → Int) (i j a b : Nat) : Int := if (a < i ∨ (a = i ∧ b < j)) ∧ b < n then -A a b else A a b
theorem neg_zeroM (n : Nat) (A : Nat → Nat → Int) : negM n A 0 0 = A := by funext a b; unfold negM; rw [if_neg (by omega)]
theorem neg_step (n : Nat) (A : Nat → Nat → Int) {i j : Nat} (hj : j < n) : put (negM n A i j) i j (-(negM n A i j i j)) = negM n A i (j + 1) := by
  funext a b
  unfold put negM
  by_cases h : a = i ∧ b = j
  · rw [if_pos h, if_neg (by omega), if_pos (by omega), h.1, h.2]
  · rw [if_neg h]
    by_cases h2 : (a < i ∨ (a = i ∧ b < j)) ∧ b < n
    · rw [if_pos h2, if_pos (by omega)]
    · rw [if_neg h2, if_neg (by omega)]
theorem neg_row (n : Nat) (A : Nat → Nat → Int) (i : Nat) : negM n A i n = negM n A (i + 1) 0 := by
  funext a b
  unfold negM
  by_cases h2 : (a < i ∨ (a = i ∧ b < n)) ∧ b < n
  · rw [if_pos h2, if_pos (by omega)]
  · rw [if_neg h2, if_neg (by omega)]

open Go.RowKit in
theorem sqAlloc3 (w : World) (a b c : Obj) : (((w.alloc a).alloc b).alloc c).heap[w.heap.size]? = some a ∧ (((w.alloc a).alloc b).alloc c).heap[w.heap.size + 1]? = some b ∧ (((w.alloc a).alloc b).alloc c).heap[w.heap.size + 1 + 1]? = some c ∧
    Below w.heap.size w (((w.alloc a).alloc b).alloc c) := by
  have s2 : ((w.alloc a).alloc b).heap.size = w.heap.size + 1 + 1 := by simp
  refine ⟨?_, ?_, ?_, (((Below.refl _ w).alloc (Nat.le_refl _) _).alloc (by simp) _).alloc (by rw [s2]; omega) _⟩
  · rw [heap_alloc_old _ _ (by rw [s2]; omega)]; exact heap_alloc2_old _ _ _
  · rw [heap_alloc_old _ _ (by rw [s2]; omega)]; exact heap_alloc2_new _ _ _
  · rw [← s2]; exact heap_alloc_new _ _
open Go.RowKit in
theorem sqAlloc4 (w : World) (a b c d : Obj) : ((((w.alloc a).alloc b).alloc c).alloc d).heap[w.heap.size]? = some a ∧ ((((w.alloc a).alloc b).alloc c).alloc d).heap[w.heap.size + 1]? = some b ∧ ((((w.alloc a).alloc b).alloc c).alloc d).heap[w.heap.size + 1 + 1]? = some c ∧
    ((((w.alloc a).alloc b).alloc c).alloc d).heap[w.heap.size + 1 + 1 + 1]? = some d ∧ Below w.heap.size w ((((w.alloc a).alloc b).alloc c).alloc d) := by
  have s3 : (((w.alloc a).alloc b).alloc c).heap.size = w.heap.size + 1 + 1 + 1 := by simp
  obtain ⟨h1, h2, h3, h4⟩ := sqAlloc3 w a b c
  refine ⟨?_, ?_, ?_, ?_, h4.alloc (by rw [s3]; omega) _⟩
  · rw [heap_alloc_old _ _ (by rw [s3]; omega)]; exact h1
  · rw [heap_alloc_old _ _ (by rw [s3]; omega)]; exact h2
  · rw [heap_alloc_old _ _ (by rw [s3]; omega)]; exact h3
  · rw [← s3]; exact heap_alloc_new _ _

end Go.Proofs.YtcenhemlgapkeaaDoor

/- Squares as lists of cells, row by row; a matrix's rows and cells read off an array. No program in sight but for the cells' lay-out, no condition. -/
namespace Go.Proofs.YtcenhemlgapkeaaDoor
open Go.RowKit

/-- A square's cells, row by row. -/
def sqList (n : Nat) (A : Nat → Nat → Int) : List Int := (List.range (n * n)).map fun p => wrap64 (A (p / n) (p % n))
theorem sqList_length (n : Nat) (A : Nat → Nat → Int) : (sqList n A).length = n * n := by simp [sqList]
theorem sq_index_lt {n i j : Nat} (hi : i < n) (hj : j < n) : i * n + j < n * n := by
  have : (i + 1) * n ≤ n * n := Nat.mul_le_mul_right n hi
  rw [Nat.add_mul, Nat.one_mul] at this; omega
theorem sq_at_index {n p i j : Nat} (hj : j < n) : i * n + j = p ↔ i = p / n ∧ j = p % n := by
  constructor
  · intro h
    subst h
    rw [Nat.mul_comm, Nat.mul_add_div (by omega), Nat.div_eq_of_lt hj, Nat.mul_add_mod, Nat.mod_eq_of_lt hj]
    exact ⟨rfl, rfl⟩
  · rintro ⟨rfl, rfl⟩
    rw [Nat.mul_comm]; exact Nat.div_add_mod p n
theorem sqList_get {n : Nat} (A : Nat → Nat → Int) {i j : Nat} (hi : i < n) (hj : j < n) : (sqList n A).getD (i * n + j) 0 = wrap64 (A i j) := by
  have h := sq_index_lt hi hj
  have e := (sq_at_index (p := i * n + j) (i := i) hj).1 rfl
  rw [List.getD_eq_getElem?_getD]
  simp only [sqList, List.getElem?_map, List.getElem?_range h, Option.map_some, Option.getD_some]
  rw [← e.1, ← e.2]
theorem sqList_i64 (n : Nat) (A : Nat → Nat → Int) : All64 (sqList n A) := fun x hx => by
  obtain ⟨p, _, rfl⟩ := List.mem_map.1 hx
  exact I64_wrap _
theorem sqList_congr {n : Nat} {A B : Nat → Nat → Int} (h : ∀ i j, i < n → j < n → wrap64 (A i j) = wrap64 (B i j)) : sqList n A = sqList n B := by
  unfold sqList
  apply List.map_congr_left
  intro p hp
  have hp := List.mem_range.1 hp
  have hn : 0 < n := Nat.pos_of_ne_zero fun h => by subst h; simp at hp
  exact h _ _ (Nat.div_lt_of_lt_mul hp) (Nat.mod_lt _ hn)
/-- One row. -/
def sqRow (n : Nat) (A : Nat → Nat → Int) (i : Nat) : List Int := (List.range n).map fun j => wrap64 (A i j)
theorem sqRow_length (n : Nat) (A : Nat → Nat → Int) (i : Nat) : (sqRow n A i).length = n := by simp [sqRow]
theorem sqList_take {n : Nat} (A : Nat → Nat → Int) {i : Nat} (hi : i < n) : (sqList n A).take ((i + 1) * n) = (sqList n A).take (i * n) ++ sqRow n A i := by
  have h1 : (i + 1) * n ≤ n * n := Nat.mul_le_mul_right n hi
  have h2 : (i + 1) * n = i * n + n := by rw [Nat.add_mul, Nat.one_mul]
  apply List.ext_getElem?
  intro k
  rw [h2] at h1 ⊢
  rcases Nat.lt_or_ge k (i * n) with hk | hk
  · rw [List.getElem?_append_left (by rw [List.length_take, sqList_length]; omega), List.getElem?_take, List.getElem?_take, if_pos (by omega), if_pos hk]
  · rw [List.getElem?_append_right (by rw [List.length_take, sqList_length]; omega), List.length_take, sqList_length, Nat.min_eq_left (by omega), List.getElem?_take]
    rcases Nat.lt_or_ge k (i * n + n) with hk2 | hk2
    · obtain ⟨j, rfl⟩ : ∃ j, k = i * n + j := ⟨k - i * n, by omega⟩
      have hj : j < n := by omega
      have e := (sq_at_index (p := i * n + j) (i := i) hj).1 rfl
      rw [if_pos hk2, Nat.add_sub_cancel_left]
      simp only [sqList, sqRow, List.getElem?_map, List.getElem?_range (sq_index_lt hi hj), List.getElem?_range hj, Option.map_some]
      rw [← e.1, ← e.2]
    · rw [if_neg (by omega), List.getElem?_eq_none (by rw [sqRow_length]; omega)]

namespace M
/-- What is wrong with an array that should be a square of at most so many rows. -/
def sqFault (x : Arr) (most : Int) : Int :=
  if flaw x.ch x.s x.d ≠ 0 then flaw x.ch x.s x.d
  else if x.s.length ≠ 2 then 3
  else if x.s.getD 0 0 ≠ x.s.getD 1 0 then 4
  else if most < x.s.getD 0 0 then 7
  else if x.ch = true then 6
  else 0
/-- How many rows. -/
def sqN (x : Arr) : Nat := (x.s.getD 0 0).toNat
/-- The number at a place. -/
def sqA (n : Nat) (d : List Int) (i j : Nat) : Int := if i < n ∧ j < n then d.getD (i * n + j) 0 else 0
end M

/-- A list's own square. -/
theorem sqList_self {n : Nat} {d : List Int} (h : d.length = n * n) (hd : All64 d) : sqList n (M.sqA n d) = d := by
  apply List.ext_getElem
  · rw [sqList_length, h]
  · intro p h1 h2
    have hp : p < n * n := by omega
    have hn : 0 < n := Nat.pos_of_ne_zero fun h => by subst h; simp at hp
    have q1 : p / n < n := Nat.div_lt_of_lt_mul hp
    have q2 : p % n < n := Nat.mod_lt _ hn
    have q3 : p / n * n + p % n = p := by rw [Nat.mul_comm]; exact Nat.div_add_mod p n
    simp only [sqList, List.getElem_map, List.getElem_range, M.sqA]
    rw [if_pos ⟨q1, q2⟩, q3, List.getD_eq_getElem?_getD, List.getElem?_eq_getElem h2, Option.getD_some]
    exact wrap_id (hd _ (List.getElem_mem h2))

end Go.Proofs.YtcenhemlgapkeaaDoor

/- Stores into an own row; lists of a square's numbers. No condition. -/
namespace Go.Proofs.YtcenhemlgapkeaaDoor
open Go.RowKit

/-- Numbers row by row. -/
def mkList (n : Nat) (F : Nat → Nat → Int) : List Int := (List.range (n * n)).map fun p => F (p / n) (p % n)
theorem mkList_length (n : Nat) (F : Nat → Nat → Int) : (mkList n F).length = n * n := by simp [mkList]
theorem mkList_get {n : Nat} (F : Nat → Nat → Int) {i j : Nat} (hi : i < n) (hj : j < n) : (mkList n F).getD (i * n + j) 0 = F i j := by
  have h := sq_index_lt hi hj
  have e := (sq_at_index (p := i * n + j) (i := i) hj).1 rfl
  rw [List.getD_eq_getElem?_getD]
  simp only [mkList, List.getElem?_map, List.getElem?_range h, Option.map_some, Option.getD_some]
  rw [← e.1, ← e.2]
theorem mkList_set {n : Nat} (F : Nat → Nat → Int) {i j : Nat} (hj : j < n) (v : Int) : (mkList n F).set (i * n + j) v = mkList n (put F i j v) := by
  apply List.ext_getElem
  · simp [mkList]
  · intro p h1 h2
    have hn : 0 < n := by omega
    simp only [List.getElem_set, mkList, List.getElem_map, List.getElem_range, put]
    by_cases e : i * n + j = p
    · rw [if_pos e, if_pos (by have := (sq_at_index (i := i) hj).1 e; omega)]
    · rw [if_neg e, if_neg (fun k => e ((sq_at_index (i := i) hj).2 ⟨k.1.symm, k.2.symm⟩))]
theorem mkList_congr {n : Nat} {F G : Nat → Nat → Int} (h : ∀ i j, i < n → j < n → F i j = G i j) : mkList n F = mkList n G := by
  unfold mkList
  apply List.map_congr_left
  intro p hp
  have hp := List.mem_range.1 hp
  have hn : 0 < n := Nat.pos_of_ne_zero fun h => by subst h; simp at hp
  exact h _ _ (Nat.div_lt_of_lt_mul hp) (Nat.mod_lt _ hn)
theorem mkList_self {n : Nat} {d : List Int} (h : d.length = n * n) : mkList n (M.sqA n d) = d := by
  apply List.ext_getElem
  · rw [mkList_length, h]
  · intro p h1 h2
    have hp : p < n * n := by omega
    have hn : 0 < n := Nat.pos_of_ne_zero fun h => by subst h; simp at hp
    have q1 : p / n < n := Nat.div_lt_of_lt_mul hp
    have q2 : p % n < n := Nat.mod_lt _ hn
    have q3 : p / n * n + p % n = p := by rw [Nat.mul_comm]; exact Nat.div_add_mod p n
    simp only [mkList, List.getElem_map, List.getElem_range, M.sqA]
    rw [if_pos ⟨q1, q2⟩, q3, List.getD_eq_getElem?_getD, List.getElem?_eq_getElem h2, Option.getD_some]
theorem mkList_i64 {n : Nat} {F : Nat → Nat → Int} (h : ∀ i j, i < n → j < n → I64 (F i j)) : All64 (mkList n F) := fun x hx => by
  obtain ⟨p, hp, rfl⟩ := List.mem_map.1 hx
  have hp := List.mem_range.1 hp
  have hn : 0 < n := Nat.pos_of_ne_zero fun h => by subst h; simp at hp
  exact h _ _ (Nat.div_lt_of_lt_mul hp) (Nat.mod_lt _ hn)
theorem sqA_mk {n : Nat} (F : Nat → Nat → Int) {i j : Nat} (hi : i < n) (hj : j < n) : M.sqA n (mkList n F) i j = F i j := by
  unfold M.sqA; rw [if_pos ⟨hi, hj⟩, mkList_get F hi hj]
theorem sqA_i64 {n : Nat} {d : List Int} (hd : All64 d) (i j : Nat) : I64 (M.sqA n d i j) := by
  unfold M.sqA
  split
  · rw [List.getD_eq_getElem?_getD]
    cases h : d[i * n + j]? with
    | none => show I64 0; unfold I64; omega
    | some v => exact hd _ (List.mem_of_getElem? h)
  · unfold I64; omega
theorem sqA_get {n : Nat} (d : List Int) {i j : Nat} (hi : i < n) (hj : j < n) : d.getD (i * n + j) 0 = M.sqA n d i j := by
  unfold M.sqA; rw [if_pos ⟨hi, hj⟩]

end Go.Proofs.YtcenhemlgapkeaaDoor
