/- What a call leaves that tells a list in new memory, or an error. -/
import Derived.Test.YtohnimfjekemjaaKit
namespace Go.Proofs.Ytohnimfjekemjaa
open Go.RowKit

/-- A list in new memory, or an error. -/
def ListPost (r : Except Int (List Int)) (w : World) (e : Ending) (w' : World) : Prop :=
  (∀ n, r = .error n → e = .returned (.tuple #[.slice none 0 0, .iface 67 (.int .i64 n)])) ∧
  (∀ c, r = .ok c → ∃ v, e = .returned (.tuple #[v, .nilIface]) ∧ Own w' w.heap.size v c) ∧ Below w.heap.size w w'

theorem ListPost.error {r : Except Int (List Int)} {w w' : World} {n : Int} {e : Ending} (h : r = .error n) (he : e = .returned (.tuple #[.slice none 0 0, .iface 67 (.int .i64 n)])) (hb : Below w.heap.size w w') :
    ListPost r w e w' := ⟨fun m hm => (by rw [h] at hm; cases hm; exact he), fun c hc => (by rw [h] at hc; cases hc), hb⟩

theorem ListPost.ok {r : Except Int (List Int)} {w w' : World} {c : List Int} {v : Value} {e : Ending} (h : r = .ok c) (he : e = .returned (.tuple #[v, .nilIface])) (ho : Own w' w.heap.size v c) (hb : Below w.heap.size w w') :
    ListPost r w e w' := ⟨fun m hm => (by rw [h] at hm; cases hm), fun d hd => (by rw [h] at hd; cases hd; exact ⟨v, he, ho⟩), hb⟩

end Go.Proofs.Ytohnimfjekemjaa
