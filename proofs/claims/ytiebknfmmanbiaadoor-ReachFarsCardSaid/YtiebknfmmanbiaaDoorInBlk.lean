/- A block of ints of the call's own, known whole. Condition: fewer than 2^44 cells. -/
import Derived.Test.YtiebknfmmanbiaaDoorBdA
import Derived.Laws.Rows
namespace Go.Proofs.YtiebknfmmanbiaaDoor
open Go.RowKit

/-- n zeros, as cells. -/
def zeroCells (n : Nat) : Array Value := (List.replicate n (Value.int .i64 0)).toArray

theorem run_make_ints (n : Nat) (hb : n < 17592186044416) (W : World) :
    (Instr.makeSlice 22 (.int .i64 (n : Int)) (.int .i64 (n : Int))).run Tryd.prog W = .ok (.slice (some ⟨W.heap.size, 0, none⟩) n n) (W.alloc (.cells (zeroCells n) 3)) := by
  obtain ⟨i0, hi, hz0, hz1, hz2⟩ := info_parts Tryd.infoInt
  have h := run_make (P := Tryd.prog) W 22 3 i0 (.int .i64 0) Tryd.underlying22 hi hz0 .i64 .i64 n n (by omega) (Int.le_refl _) (by rw [hz2]; omega) (by omega)
  rw [hz1, Int.toNat_natCast, Nat.mul_one] at h
  rw [h]
  have e : madeCells (Value.int .i64 0).cells n = zeroCells n := by
    apply Array.toList_inj.1
    exact (toList_madeCells_one _ _).trans rfl
  rw [e]

/-- A block of ints. -/
def cellsOf (ys : List Int) : Array Value := (ys.map (Value.int .i64)).toArray

theorem block_cell {W : World} {b : Nat} {e : TypeId} {ys : List Int} (h : W.heap[b]? = some (.cells (cellsOf ys) e (0, 0))) {k : Nat} (hk : k < ys.length) :
    W.cell? ⟨b, k, none⟩ = some (.int .i64 (ys.getD k 0)) := by
  rw [cell_of_row W b k _ e (0, 0) h]
  simp [cellsOf, hk]

theorem block_set {W : World} {b : Nat} {e : TypeId} {ys : List Int} (h : W.heap[b]? = some (.cells (cellsOf ys) e (0, 0))) (k : Nat) (v : Int) :
    (W.setCell ⟨b, k, none⟩ (.int .i64 v)).heap[b]? = some (.cells (cellsOf (ys.set k v)) e (0, 0)) := by
  rw [heap_setCell_same W b k _ e _ h]
  congr 2
  apply Array.toList_inj.1
  simp [cellsOf]

theorem own_of_block {W : World} {b B n : Nat} {ys : List Int} (h : W.heap[b]? = some (.cells (cellsOf ys) 3 (0, 0))) (hb : B ≤ b) (hn : n = ys.length) (hm : ys.length ≤ maxLen) :
    Own W B (.slice (some ⟨b, 0, none⟩) n n) ys := by
  subst hn
  exact ⟨by simp, .inr ⟨b, _, _, rfl, hb, h, Nat.le_refl _, hm, by simp [cellsOf], List.take_of_length_le (by simp [cellsOf])⟩⟩

end Go.Proofs.YtiebknfmmanbiaaDoor
