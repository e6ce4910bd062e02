/- Variables of some cells in memory; a word of the line, as a value. No condition. -/
import Derived.Test.YtaplaoelamnoiaaGreatDoorLxWhile
import Derived.Test.YtaplaoelamnoiaaGreatDoorBd05
namespace Go.Proofs.YtaplaoelamnoiaaGreatDoor
open Go.RowKit

/-- A variable whose cells hold these values, and may be written. -/
def BoxC (N : Nat) (vs : List Value) (w : World) : Prop := ∀ i v, vs[i]? = some v → w.cell? ⟨N, i, none⟩ = some v ∧ w.frozen? ⟨N, i, none⟩ = false
theorem BoxC.same {N : Nat} {vs : List Value} {w w' : World} (h : BoxC N vs w) (e : w'.heap[N]? = w.heap[N]?) : BoxC N vs w' := fun i v hv =>
  ⟨(cell_of_eq e i).trans (h i v hv).1, (frozen_of_eq e i).trans (h i v hv).2⟩
theorem boxC_alloc (w : World) (vs : Array Value) (t : TypeId) : BoxC w.heap.size vs.toList (w.alloc (.cells vs t)) := fun i v hv => by
  have hb : (w.alloc (.cells vs t)).heap[w.heap.size]? = some (.cells vs t (0, 0)) := heap_alloc_new w (.cells vs t)
  refine ⟨?_, ?_⟩
  · rw [cell_of_row _ _ i _ t (0, 0) hb]
    simpa using hv
  · unfold World.frozen?
    simp only [hb]
    simp
theorem Rd.same {g : Nat} {s : ByteArray} {p : Nat} {wv : Value} {w w' : World} (h : Rd g s p wv w) (e : w'.heap[g]? = w.heap[g]?) : Rd g s p wv w' := by
  obtain ⟨⟨c0, c1, c2⟩, f1, f2⟩ := h
  exact ⟨⟨(cell_of_eq e 0).trans c0, (cell_of_eq e 1).trans c1, (cell_of_eq e 2).trans c2⟩, (frozen_of_eq e 1).trans f1, (frozen_of_eq e 2).trans f2⟩
theorem But.below {g : Nat} {a b c : World} (h : But g a b) (k : Below b.heap.size b c) (hs : a.heap.size ≤ b.heap.size) : But g a c := fun x hx hne => (k.block x (by omega)).trans (h x hx hne)
theorem But.trans {g : Nat} {a b c : World} (h : But g a b) (k : But g b c) (hs : a.heap.size ≤ b.heap.size) : But g a c := fun x hx hne => (k x (by omega) hne).trans (h x hx hne)
theorem But.of_below {g : Nat} {a b : World} (k : Below a.heap.size a b) : But g a b := fun x hx _ => k.block x hx

/-- A word of a line. -/
structure Tok where
  kind : Int
  fn : Int
  num : Int
  text : ByteArray
  place : Int
def Tok.cells (t : Tok) : List Value := [.int .i64 t.kind, .int .i64 t.fn, .int .i64 t.num, .string t.text, .int .i64 t.place]
def Tok.val (t : Tok) : Value := .agg #[.int .i64 t.kind, .int .i64 t.fn, .int .i64 t.num, .string t.text, .int .i64 t.place]
abbrev noText : ByteArray := ⟨#[]⟩
end Go.Proofs.YtaplaoelamnoiaaGreatDoor
