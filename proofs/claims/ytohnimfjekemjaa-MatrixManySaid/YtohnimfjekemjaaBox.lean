/- Small words on arrays that lie in boxes, on short rows written out, and on worlds that only grow. -/
import Derived.Test.YtohnimfjekemjaaArrP
import Derived.Deep.RegionHeld
namespace Go.Proofs.Ytohnimfjekemjaa
open Go.RowKit

/-- Three cells of a box hold an array. -/
abbrev Box (w : World) (N : Nat) (ch : Bool) (a : Option Addr) (m c : Nat) (b : Option Addr) (n z : Nat) : Prop :=
  w.cell? ⟨N, 0, none⟩ = some (.bool ch) ∧ w.cell? ⟨N, 1, none⟩ = some (.slice a m c) ∧ w.cell? ⟨N, 2, none⟩ = some (.slice b n z)

theorem row_one {w : World} {n : Nat} {x : Int} (h : w.cell? ⟨n, 0, none⟩ = some (.int .i64 x)) : Row w (some ⟨n, 0, none⟩) [x] := by
  intro i hi
  obtain rfl : i = 0 := by simpa using hi
  exact ⟨_, _, rfl, h⟩

theorem row_two {w : World} {n : Nat} {x y : Int} (h : w.cell? ⟨n, 0, none⟩ = some (.int .i64 x)) (k : w.cell? ⟨n, 1, none⟩ = some (.int .i64 y)) : Row w (some ⟨n, 0, none⟩) [x, y] := by
  intro i hi
  have hi' : i < 2 := hi
  match i, hi' with
  | 0, _ => exact ⟨_, _, rfl, h⟩
  | 1, _ => exact ⟨_, _, rfl, k⟩

theorem row_three {w : World} {n : Nat} {x y z : Int} (h : w.cell? ⟨n, 0, none⟩ = some (.int .i64 x)) (k : w.cell? ⟨n, 1, none⟩ = some (.int .i64 y)) (l : w.cell? ⟨n, 2, none⟩ = some (.int .i64 z)) : Row w (some ⟨n, 0, none⟩) [x, y, z] := by
  intro i hi
  have hi' : i < 3 := hi
  match i, hi' with
  | 0, _ => exact ⟨_, _, rfl, h⟩
  | 1, _ => exact ⟨_, _, rfl, k⟩
  | 2, _ => exact ⟨_, _, rfl, l⟩

theorem push {w w' : World} (h : Below w.heap.size w w') (o : Obj) : Below w.heap.size w (w'.alloc o) := h.alloc h.size o
theorem start (w : World) : Below w.heap.size w w := Below.refl _ w

theorem alloc3 {w : World} {N : Nat} {x y z : Value} (h : w.cell? ⟨N, 0, none⟩ = some x ∧ w.cell? ⟨N, 1, none⟩ = some y ∧ w.cell? ⟨N, 2, none⟩ = some z) (o : Obj) :
    (w.alloc o).cell? ⟨N, 0, none⟩ = some x ∧ (w.alloc o).cell? ⟨N, 1, none⟩ = some y ∧ (w.alloc o).cell? ⟨N, 2, none⟩ = some z :=
  held3 (push (start w) o) h
theorem falloc3 {w : World} {N : Nat} (hN : N < w.heap.size) (h : w.frozen? ⟨N, 0, none⟩ = false ∧ w.frozen? ⟨N, 1, none⟩ = false ∧ w.frozen? ⟨N, 2, none⟩ = false) (o : Obj) :
    (w.alloc o).frozen? ⟨N, 0, none⟩ = false ∧ (w.alloc o).frozen? ⟨N, 1, none⟩ = false ∧ (w.alloc o).frozen? ⟨N, 2, none⟩ = false :=
  frozen3 (push (start w) o) hN h

theorem Row.setFar {w : World} {b o : Nat} {s : List Int} (h : Row w (some ⟨b, o, none⟩) s) (p : Addr) (v : Value) (hp : p.block ≠ b) : Row (w.setCell p v) (some ⟨b, o, none⟩) s := by
  intro i hi
  obtain ⟨b', o', e, hc⟩ := h i hi
  cases e
  exact ⟨_, _, rfl, (World.cell?_setCell_far _ _ _ _ hp).trans hc⟩

theorem set3 {w w' : World} (h : Below w.heap.size w w') {N : Nat} (hN : w.heap.size ≤ N) (x y z : Value) : Below w.heap.size w (((w'.setCell ⟨N, 0, none⟩ x).setCell ⟨N, 1, none⟩ y).setCell ⟨N, 2, none⟩ z) :=
  ((h.setCell hN _).setCell hN _).setCell hN _

end Go.Proofs.Ytohnimfjekemjaa
