/- The document's Square. No condition. -/
import Derived.Test.YtcenhemlgapkeaaDoorBdB
namespace Go.Proofs.YtcenhemlgapkeaaDoor
open Go.RowKit

set_option maxHeartbeats 1000000 in
theorem square_any (n : Int) (b : Option Addr) (m z : Nat) (w : World) :
    Calls Tryd.prog 20 #[.int .i64 n, .slice b m z] w fun e w' => ∃ a c, e = .returned (arrV false a 2 c b m z) ∧ Row w' a [n, n] ∧ Below w.heap.size w w' := by
  go_enter Tryd.func20, Tryd.ntmps20
  go_wp2
  refine bodyPost_ret (v := arrV false (some ⟨w.heap.size + 1, 0, none⟩) 2 2 b m z) (by simp [results, Tryd.results20, go_sem, cell?_set_same]) rfl ?_
  refine ⟨_, _, rfl, row_two (by simp [go_sem]) (by simp [go_sem]), ?_⟩
  first
    | exact push (push (start w) _) _
    | exact (((push (push (start w) _) _).setCell (by simp) _).setCell (by simp) _).setCell (by simp) _

end Go.Proofs.YtcenhemlgapkeaaDoor
