/- Rows of whole numbers, wrapped, as cells of a block of their own. No condition. -/
import Derived.Test.YtfnoalbnkbifmaaBdA
import Derived.Test.YtfnoalbnkbifmaaBdS
import Derived.Laws.Rows
namespace Go.Proofs.Ytfnoalbnkbifmaa
open Go.RowKit

/-- k whole numbers, wrapped. -/
def rowCells (k : Nat) (f : Nat → Int) : Array Value := ((List.range k).map fun i => Value.int .i64 (wrap64 (f i))).toArray
theorem row_size (k : Nat) (f : Nat → Int) : (rowCells k f).size = k := by simp [rowCells]
theorem row_get {k : Nat} (f : Nat → Int) {i : Nat} (hi : i < k) : (rowCells k f)[i]? = some (.int .i64 (wrap64 (f i))) := by simp [rowCells, hi]
/-- Another number at a place. -/
def putR (f : Nat → Int) (i : Nat) (v : Int) (a : Nat) : Int := if a = i then v else f a
theorem row_put {k : Nat} (f : Nat → Int) {i : Nat} (v : Int) : (rowCells k f).setIfInBounds i (.int .i64 (wrap64 v)) = rowCells k (putR f i v) := by
  apply Array.toList_inj.1
  apply List.ext_getElem
  · simp [rowCells]
  · intro j h1 h2
    simp only [Array.toList_setIfInBounds, List.getElem_set, rowCells, List.getElem_map, List.getElem_range, putR]
    by_cases e : i = j
    · rw [if_pos e, if_pos e.symm]
    · rw [if_neg e, if_neg (fun h => e h.symm)]
theorem row_cell {W : World} {b k : Nat} {e : TypeId} {f : Nat → Int} (h : W.heap[b]? = some (.cells (rowCells k f) e (0, 0))) {i : Nat} (hi : i < k) : W.cell? ⟨b, i, none⟩ = some (.int .i64 (wrap64 (f i))) := by
  rw [cell_of_row W b i _ e (0, 0) h]; exact row_get f hi
theorem row_set {W : World} {b k : Nat} {e : TypeId} {f : Nat → Int} (h : W.heap[b]? = some (.cells (rowCells k f) e (0, 0))) (i : Nat) (v : Int) :
    (W.setCell ⟨b, i, none⟩ (.int .i64 (wrap64 v))).heap[b]? = some (.cells (rowCells k (putR f i v)) e (0, 0)) := by
  rw [heap_setCell_same W b _ _ e _ h, row_put]
theorem room_row (k : Nat) : roomCells k = rowCells k fun _ => 0 := by
  have z : wrap64 0 = 0 := wrap_id (by unfold I64; omega)
  apply Array.toList_inj.1
  simp only [roomCells, rowCells, z]
  apply List.ext_getElem
  · simp
  · intro j h1 h2; simp
theorem row_congr {k : Nat} {f g : Nat → Int} (h : ∀ i, i < k → f i = g i) : rowCells k f = rowCells k g := by
  unfold rowCells
  congr 1
  apply List.map_congr_left
  intro i hi
  rw [h i (List.mem_range.1 hi)]

end Go.Proofs.Ytfnoalbnkbifmaa
