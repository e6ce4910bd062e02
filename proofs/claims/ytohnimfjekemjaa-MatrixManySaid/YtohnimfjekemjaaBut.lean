/- Worlds that differ in one block alone. No condition. -/
import Derived.Test.YtohnimfjekemjaaKit
namespace Go.Proofs.Ytohnimfjekemjaa
open Go.RowKit

/-- All blocks but one are as they were. -/
def But (g : Nat) (w w' : World) : Prop := ∀ b, b < w.heap.size → b ≠ g → w'.heap[b]? = w.heap[b]?
theorem But.refl (g : Nat) (w : World) : But g w w := fun _ _ _ => rfl
theorem But.get {g : Nat} {w w' : World} (h : But g w w') {b : Nat} {o : Obj} (hb : w.heap[b]? = some o) (hne : b ≠ g) : w'.heap[b]? = some o :=
  (h b (Array.getElem?_eq_some_iff.1 hb).1 hne).trans hb
theorem But.set {g : Nat} {w w' : World} (h : But g w w') (o : Nat) (v : Value) : But g w (w'.setCell ⟨g, o, none⟩ v) := fun b hb hne => (Below.heap_setCell w' _ _ b hne).trans (h b hb hne)
theorem lt_of_some {w : World} {b : Nat} {o : Obj} (hb : w.heap[b]? = some o) : b < w.heap.size := (Array.getElem?_eq_some_iff.1 hb).1

end Go.Proofs.Ytohnimfjekemjaa
