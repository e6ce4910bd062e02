/- Small words on arrays that lie in boxes, on short rows written out, and on worlds that only grow. -/
import Derived.Test.YtbhbmkkpbceebaaDoorWkMatch
namespace Go.Proofs.YtbhbmkkpbceebaaDoor
open Go.RowKit

/-- Three cells of a box hold an array. -/
abbrev Box (w : World) (N : Nat) (ch : Bool) (a : Option Addr) (m c : Nat) (b : Option Addr) (n z : Nat) : Prop :=
  w.cell? ⟨N, 0, none⟩ = some (.bool ch) ∧ w.cell? ⟨N, 1, none⟩ = some (.slice a m c) ∧ w.cell? ⟨N, 2, none⟩ = some (.slice b n z)

theorem row_one {w : World} {n : Nat} {x : Int} (h : w.cell? ⟨n, 0, none⟩ = some (.int .i64 x)) : Row w (some ⟨n, 0, none⟩) [x] := by
  intro i hi
  obtain rfl : i = 0 := by simpa using hi
  exact ⟨_, _, rfl, h⟩

theorem row_two {w : World} {n : Nat} {x y : Int} (h : w.cell? ⟨n, 0, none⟩ = some (.int .i64 x)) (k : w.cell? ⟨n, 1, none⟩ = some (.int .i64 y)) : Row w (some ⟨n, 0, none⟩) [x, y] := by
  intro i hi
  have hi' : i < 2 := hi
  match i, hi' with
  | 0, _ => exact ⟨_, _, rfl, h⟩
  | 1, _ => exact ⟨_, _, rfl, k⟩

theorem row_three {w : World} {n : Nat} {x y z : Int} (h : w.cell? ⟨n, 0, none⟩ = some (.int .i64 x)) (k : w.cell? ⟨n, 1, none⟩ = some (.int .i64 y)) (l : w.cell? ⟨n, 2, none⟩ = some (.int .i64 z)) : Row w (some ⟨n, 0, none⟩) [x, y, z] := by
  intro i hi
  have hi' : i < 3 := hi
  match i, hi' with
  | 0, _ => exact ⟨_, _, rfl, h⟩
  | 1, _ => exact ⟨_, _, rfl, k⟩
  | 2, _ => exact ⟨_, _, rfl, l⟩

theorem push {w w' : World} (h : Below w.heap.size w w') (o : Obj) : Below w.heap.size w (w'.alloc o) := h.alloc h.size o
theorem start (w : World) : Below w.heap.size w w := Below.refl _ w

theorem same_ok {x y : Arr} (hx : M.flaw x.ch x.s x.d = 0) (hy : M.flaw y.ch y.s y.d = 0) : M.same x y = .ok (decide (x = y)) := by
  unfold M.same; rw [if_pos hx, if_pos hy]

end Go.Proofs.YtbhbmkkpbceebaaDoor
