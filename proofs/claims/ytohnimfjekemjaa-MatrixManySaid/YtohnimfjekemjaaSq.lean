/- Squares of at most six rows, as cells: whole numbers at the cells, wrapped. No condition. -/
import Derived.Test.YtohnimfjekemjaaMx2
import Derived.Test.YtohnimfjekemjaaWrap
import Derived.Laws.Rows
import Derived.Laws.Tables
namespace Go.Proofs.Ytohnimfjekemjaa
open Go.RowKit

/-- A square's cells: the number of rows, and 36 numbers, row by row. -/
def sqCells (n : Nat) (A : Nat → Nat → Int) : Array Value := (Value.int .i64 (n : Int) :: (List.range 36).map fun p => Value.int .i64 (wrap64 (A (p / 6) (p % 6)))).toArray

theorem sq_size (n : Nat) (A : Nat → Nat → Int) : (sqCells n A).size = 37 := by simp [sqCells]
theorem sq_one (n : Nat) (A : Nat → Nat → Int) : (sqCells n A).all (·.oneCell') = true := by simp [sqCells, Value.oneCell']

theorem sq_get0 (n : Nat) (A : Nat → Nat → Int) : (sqCells n A)[0]? = some (.int .i64 (n : Int)) := by simp [sqCells]
theorem sq_get (n : Nat) (A : Nat → Nat → Int) {i j : Nat} (hi : i < 6) (hj : j < 6) : (sqCells n A)[1 + i * 6 + j]? = some (.int .i64 (wrap64 (A i j))) := by
  have h1 : 1 + i * 6 + j = (6 * i + j) + 1 := by omega
  have h2 : (6 * i + j) / 6 = i := by omega
  have h3 : (6 * i + j) % 6 = j := by omega
  rw [h1]
  simp only [sqCells, List.getElem?_toArray, List.getElem?_cons_succ, List.getElem?_map]
  rw [List.getElem?_range (by omega)]
  simp only [Option.map_some, h2, h3]

/-- Another number at a place. -/
def put (A : Nat → Nat → Int) (i j : Nat) (v : Int) (a b : Nat) : Int := if a = i ∧ b = j then v else A a b

theorem sq_put (n : Nat) (A : Nat → Nat → Int) {i j : Nat} (hi : i < 6) (hj : j < 6) (v : Int) : (sqCells n A).setIfInBounds (1 + i * 6 + j) (.int .i64 (wrap64 v)) = sqCells n (put A i j v) := by
  apply Array.toList_inj.1
  apply List.ext_getElem
  · simp [sqCells]
  · intro k h1 h2
    have hk : k < 37 := by simpa [sqCells] using h2
    simp only [Array.toList_setIfInBounds, List.getElem_set]
    cases k with
    | zero =>
      rw [if_neg (by omega)]
      simp [sqCells]
    | succ p =>
      simp only [sqCells, List.getElem_cons_succ, List.getElem_map, List.getElem_range, put]
      by_cases e : 1 + i * 6 + j = p + 1
      · rw [if_pos e, if_pos (by omega)]
      · rw [if_neg e, if_neg (by omega)]

theorem sq_cell0 {W : World} {b : Nat} {e : TypeId} {n : Nat} {A : Nat → Nat → Int} (h : W.heap[b]? = some (.cells (sqCells n A) e (0, 0))) : W.cell? ⟨b, 0, none⟩ = some (.int .i64 (n : Int)) := by
  rw [cell_of_row W b 0 _ e (0, 0) h]; exact sq_get0 n A
theorem sq_cell {W : World} {b : Nat} {e : TypeId} {n : Nat} {A : Nat → Nat → Int} (h : W.heap[b]? = some (.cells (sqCells n A) e (0, 0))) {i j : Nat} (hi : i < 6) (hj : j < 6) :
    W.cell? ⟨b, 1 + i * 6 + j, none⟩ = some (.int .i64 (wrap64 (A i j))) := by
  rw [cell_of_row W b _ _ e (0, 0) h]; exact sq_get n A hi hj
theorem sq_set {W : World} {b : Nat} {e : TypeId} {n : Nat} {A : Nat → Nat → Int} (h : W.heap[b]? = some (.cells (sqCells n A) e (0, 0))) {i j : Nat} (hi : i < 6) (hj : j < 6) (v : Int) :
    (W.setCell ⟨b, 1 + i * 6 + j, none⟩ (.int .i64 (wrap64 v))).heap[b]? = some (.cells (sqCells n (put A i j v)) e (0, 0)) := by
  rw [heap_setCell_same W b _ _ e _ h, sq_put n A hi hj]

theorem sq_congr {n : Nat} {A B : Nat → Nat → Int} (h : ∀ i j, i < 6 → j < 6 → wrap64 (A i j) = wrap64 (B i j)) : sqCells n A = sqCells n B := by
  unfold sqCells
  congr 1
  congr 1
  apply List.map_congr_left
  intro p hp
  have := List.mem_range.1 hp
  rw [h (p / 6) (p % 6) (by omega) (by omega)]

def zeroM (_ _ : Nat) : Int := 0
theorem wrap_zero : wrap64 0 = 0 := wrap_id (by unfold I64; omega)
theorem sq_zero_lit (n : Nat) : sqCells n zeroM = #[.int .i64 (n : Int), .int .i64 0, .int .i64 0, .int .i64 0, .int .i64 0, .int .i64 0, .int .i64 0, .int .i64 0, .int .i64 0, .int .i64 0, .int .i64 0, .int .i64 0, .int .i64 0, .int .i64 0, .int .i64 0, .int .i64 0, .int .i64 0, .int .i64 0, .int .i64 0, .int .i64 0, .int .i64 0, .int .i64 0, .int .i64 0, .int .i64 0, .int .i64 0, .int .i64 0, .int .i64 0, .int .i64 0, .int .i64 0, .int .i64 0, .int .i64 0, .int .i64 0, .int .i64 0, .int .i64 0, .int .i64 0, .int .i64 0, .int .i64 0] := by
  unfold sqCells zeroM
  rw [wrap_zero]
  rfl
theorem Try.infoSq : (Try.prog.info? 63).map (·.size) = some 37 := by kernel_rfl
theorem Try.zeroSq0 : (Try.prog.info? 63).bind (·.zero) = some (.agg #[.int .i64 0, .int .i64 0, .int .i64 0, .int .i64 0, .int .i64 0, .int .i64 0, .int .i64 0, .int .i64 0, .int .i64 0, .int .i64 0, .int .i64 0, .int .i64 0, .int .i64 0, .int .i64 0, .int .i64 0, .int .i64 0, .int .i64 0, .int .i64 0, .int .i64 0, .int .i64 0, .int .i64 0, .int .i64 0, .int .i64 0, .int .i64 0, .int .i64 0, .int .i64 0, .int .i64 0, .int .i64 0, .int .i64 0, .int .i64 0, .int .i64 0, .int .i64 0, .int .i64 0, .int .i64 0, .int .i64 0, .int .i64 0, .int .i64 0]) := by kernel_rfl
theorem Try.zeroSq : (Try.prog.info? 63).bind (·.zero) = some (.agg (sqCells 0 zeroM)) := by rw [sq_zero_lit 0]; exact Try.zeroSq0
theorem Try.builtSq0 (v : Int) : Try.prog.built 63 [(0, .int .i64 v)] = some #[.int .i64 v, .int .i64 0, .int .i64 0, .int .i64 0, .int .i64 0, .int .i64 0, .int .i64 0, .int .i64 0, .int .i64 0, .int .i64 0, .int .i64 0, .int .i64 0, .int .i64 0, .int .i64 0, .int .i64 0, .int .i64 0, .int .i64 0, .int .i64 0, .int .i64 0, .int .i64 0, .int .i64 0, .int .i64 0, .int .i64 0, .int .i64 0, .int .i64 0, .int .i64 0, .int .i64 0, .int .i64 0, .int .i64 0, .int .i64 0, .int .i64 0, .int .i64 0, .int .i64 0, .int .i64 0, .int .i64 0, .int .i64 0, .int .i64 0] := by kernel_rfl
theorem Try.builtSq (n : Nat) : Try.prog.built 63 [(0, .int .i64 (n : Int))] = some (sqCells n zeroM) := (Try.builtSq0 n).trans (congrArg some (sq_zero_lit n).symm)
theorem infoSq' (n : Nat) (A : Nat → Nat → Int) : (Try.prog.info? 63).map (·.size) = some (sqCells n A).size := by rw [sq_size]; exact Try.infoSq
theorem sizeSq (n m : Nat) (A B : Nat → Nat → Int) : (sqCells n A).size = (sqCells m B).size := by rw [sq_size, sq_size]

end Go.Proofs.Ytohnimfjekemjaa
