/- Texts that lie in one file: what is plain, rows, boxes, squares, and what is known of a world. No condition. -/
import Derived.Test.YtcenhemlgapkeaaDoorBdA
import Derived.Laws.Rows
/- A block of ints of the call's own, known whole. Condition: fewer than 2^44 cells. -/
namespace Go.Proofs.YtcenhemlgapkeaaDoor
open Go.RowKit

/-- n zeros, as cells. -/
def zeroCells (n : Nat) : Array Value := (List.replicate n (Value.int .i64 0)).toArray

theorem run_make_ints (n : Nat) (hb : n < 17592186044416) (W : World) :
    (Instr.makeSlice 22 (.int .i64 (n : Int)) (.int .i64 (n : Int))).run Tryd.prog W = .ok (.slice (some ⟨W.heap.size, 0, none⟩) n n) (W.alloc (.cells (zeroCells n) 3)) := by
  obtain ⟨i0, hi, hz0, hz1, hz2⟩ := info_parts Tryd.infoInt
  have h := run_make (P := Tryd.prog) W 22 3 i0 (.int .i64 0) Tryd.underlying22 hi hz0 .i64 .i64 n n (by omega) (Int.le_refl _) (by rw [hz2]; omega) (by omega)
  rw [hz1, Int.toNat_natCast, Nat.mul_one] at h
  rw [h]
  have e : madeCells (Value.int .i64 0).cells n = zeroCells n := by
    apply Array.toList_inj.1
    exact (toList_madeCells_one _ _).trans rfl
  rw [e]

/-- A block of ints. -/
def cellsOf (ys : List Int) : Array Value := (ys.map (Value.int .i64)).toArray

theorem block_cell {W : World} {b : Nat} {e : TypeId} {ys : List Int} (h : W.heap[b]? = some (.cells (cellsOf ys) e (0, 0))) {k : Nat} (hk : k < ys.length) :
    W.cell? ⟨b, k, none⟩ = some (.int .i64 (ys.getD k 0)) := by
  rw [cell_of_row W b k _ e (0, 0) h]
  simp [cellsOf, hk]

theorem block_set {W : World} {b : Nat} {e : TypeId} {ys : List Int} (h : W.heap[b]? = some (.cells (cellsOf ys) e (0, 0))) (k : Nat) (v : Int) :
    (W.setCell ⟨b, k, none⟩ (.int .i64 v)).heap[b]? = some (.cells (cellsOf (ys.set k v)) e (0, 0)) := by
  rw [heap_setCell_same W b k _ e _ h]
  congr 2
  apply Array.toList_inj.1
  simp [cellsOf]

theorem own_of_block {W : World} {b B n : Nat} {ys : List Int} (h : W.heap[b]? = some (.cells (cellsOf ys) 3 (0, 0))) (hb : B ≤ b) (hn : n = ys.length) (hm : ys.length ≤ maxLen) :
    Own W B (.slice (some ⟨b, 0, none⟩) n n) ys := by
  subst hn
  exact ⟨by simp, .inr ⟨b, _, _, rfl, hb, h, Nat.le_refl _, hm, by simp [cellsOf], List.take_of_length_le (by simp [cellsOf])⟩⟩

end Go.Proofs.YtcenhemlgapkeaaDoor

/- What the document's calls leave that tell a list of their own; small words on loops. No condition. -/
namespace Go.Proofs.YtcenhemlgapkeaaDoor
open Go.RowKit

theorem any_succ (k : Nat) (P : Nat → Bool) : (List.range (k + 1)).any P = ((List.range k).any P || P k) := by
  rw [List.range_succ, List.any_append]; simp
theorem room_cells (N : Nat) : zeroCells N = cellsOf (List.replicate N 0) := by simp [zeroCells, cellsOf]

/-- What a call leaves that tells a list of its own, in a block known whole. -/
def BlockPost (N : Nat) (ys : List Int) (w : World) (e : Ending) (w' : World) : Prop :=
  ∃ g, e = .returned (.slice (some ⟨g, 0, none⟩) N N) ∧ w'.heap[g]? = some (.cells (cellsOf ys) 3 (0, 0)) ∧ w.heap.size ≤ g ∧ Below w.heap.size w w'

theorem meas1 {n k : Nat} (h : k < n) : n - (intOf (Value.int .i64 ((k : Int) + 1))).toNat < n - (intOf (Value.int .i64 (k : Int))).toNat := by simp [intOf]; omega
theorem num1 (k : Nat) : Value.int .i64 ((k : Int) + 1) = Value.int .i64 ((k + 1 : Nat) : Int) := rfl

/-- What a call leaves that tells a list of its own. -/
def OwnPost (ys : List Int) (w : World) (e : Ending) (w' : World) : Prop := ∃ v, e = .returned v ∧ Own w' w.heap.size v ys ∧ Below w.heap.size w w'

theorem BlockPost.row {N : Nat} {ys : List Int} {w w' : World} {e : Ending} (h : BlockPost N ys w e w') :
    ∃ b k, e = .returned (.slice b N k) ∧ Row w' b ys ∧ Below w.heap.size w w' := by
  obtain ⟨g, rfl, hg, -, hb⟩ := h
  exact ⟨_, _, rfl, fun i hi => ⟨g, 0, rfl, by rw [Nat.zero_add]; exact block_cell hg hi⟩, hb⟩
theorem OwnPost.row {c : List Int} {w w' : World} {e : Ending} (h : OwnPost c w e w') :
    ∃ a k, e = .returned (.slice a c.length k) ∧ Row w' a c ∧ Below w.heap.size w w' := by
  obtain ⟨v, h1, h2, h3⟩ := h
  obtain ⟨a, k, rfl, -, -, q⟩ := h2.view
  exact ⟨a, k, h1, q, h3⟩

theorem take_snoc {xs : List Int} {q : Nat} (h : q < xs.length) : xs.take (q + 1) = xs.take q ++ [xs.getD q 0] := by
  rw [List.take_add_one, List.getElem?_eq_getElem h, List.getD_eq_getElem?_getD, List.getElem?_eq_getElem h]; rfl
end Go.Proofs.YtcenhemlgapkeaaDoor

/- A block of booleans, known whole. Condition: fewer than 2^44 cells. -/
namespace Go.Proofs.YtcenhemlgapkeaaDoor
open Go.RowKit

/-- A block of booleans. -/
def boolCells (bs : List Bool) : Array Value := (bs.map Value.bool).toArray
theorem Tryd.infoBool : (Tryd.prog.info? 4).map (fun i => (i.zero, i.size, i.bytes)) = some (some (.bool false), 1, 1) := by kernel_rfl
theorem run_make_bools (n : Nat) (hb : n < 17592186044416) (W : World) :
    (Instr.makeSlice 81 (.int .i64 (n : Int)) (.int .i64 (n : Int))).run Tryd.prog W = .ok (.slice (some ⟨W.heap.size, 0, none⟩) n n) (W.alloc (.cells (boolCells (List.replicate n false)) 4)) := by
  obtain ⟨i0, hi, hz0, hz1, hz2⟩ := info_parts Tryd.infoBool
  have h := run_make (P := Tryd.prog) W 81 4 i0 (.bool false) (by kernel_rfl) hi hz0 .i64 .i64 n n (by omega) (Int.le_refl _) (by rw [hz2]; omega) (by omega)
  rw [hz1, Int.toNat_natCast, Nat.mul_one] at h
  rw [h]
  have e : madeCells (Value.bool false).cells n = boolCells (List.replicate n false) := by
    apply Array.toList_inj.1
    refine (toList_madeCells_one _ _).trans ?_
    simp [boolCells]
  rw [e]
theorem bool_cell {W : World} {b : Nat} {e : TypeId} {ys : List Bool} (h : W.heap[b]? = some (.cells (boolCells ys) e (0, 0))) {k : Nat} (hk : k < ys.length) :
    W.cell? ⟨b, k, none⟩ = some (.bool (ys.getD k false)) := by
  rw [cell_of_row W b k _ e (0, 0) h]
  simp [boolCells, hk]
theorem bool_set {W : World} {b : Nat} {e : TypeId} {ys : List Bool} (h : W.heap[b]? = some (.cells (boolCells ys) e (0, 0))) (k : Nat) (v : Bool) :
    (W.setCell ⟨b, k, none⟩ (.bool v)).heap[b]? = some (.cells (boolCells (ys.set k v)) e (0, 0)) := by
  rw [heap_setCell_same W b k _ e _ h]
  congr 2
  apply Array.toList_inj.1
  simp [boolCells]
end Go.Proofs.YtcenhemlgapkeaaDoor
