/- Texts that lie in one file: what is plain, rows, boxes, squares, and what is known of a world. No condition. -/
import Derived.Test.YtcenhemlgapkeaaDoorAs
import Derived.Test.YtcenhemlgapkeaaDoorBdB
/- plain.Told and the statements' helper Error at nil and at an api.Errno: its number. Condition: the cell of the library's own variable holds the handle of the type error (Laid). -/
namespace Go.Proofs.YtcenhemlgapkeaaDoor
open Go.RowKit

/-- The one listed variable of the library is laid. -/
def Laid (w : World) : Prop := w.cell? ⟨2, 0, none⟩ = some (.iface 143 (.agg #[.pointer (some ⟨3, 26, none⟩)]))

theorem Laid.below {w w' : World} (h : Laid w) (hb : Below w.heap.size w w') : Laid w' := (hb.cell (World.block_lt_of_cell? w _ h)).trans h

theorem errN_ne {e : Int} (h : e ≠ 0) : errV e = .iface 34 (.int .i64 e) := if_neg h

theorem pushed {w w' : World} (h : Below w.heap.size w w') (o : Obj) : Below w.heap.size w (w'.alloc o) := h.alloc h.size o

set_option maxHeartbeats 1000000 in
theorem told_any (n : Int) (w : World) (hg : Laid w) :
    Calls Tryd.prog 43 #[errV n] w fun e w' => e = .returned (.int .i64 n) ∧ Below w.heap.size w w' := by
  by_cases h0 : n = 0
  · subst h0
    go_enter Tryd.func43, Tryd.ntmps43
    rw [show errV 0 = Value.nilIface from rfl]
    go_wp2
    go_ret
    exact ⟨rfl, Below.refl _ _⟩
  · rw [show errV n = Value.iface 34 (.int .i64 n) from if_neg h0]
    have hlt : 2 < w.heap.size := World.block_lt_of_cell? w _ hg
    go_enter Tryd.func43, Tryd.ntmps43
    go_wp2_with fail
    refine (as_hit n ⟨w.heap.size, 0, none⟩ (.int .i64 0) _ (by rw [World.cell?_alloc_lt _ _ ⟨2, 0, none⟩ hlt]; exact hg) (by simp) (by simp)).mono ?_
    rintro e w' ⟨rfl, rfl⟩
    go_wp2
    go_ret
    refine ⟨rfl, ?_⟩
    exact pushed (pushed (pushed (pushed (pushed (Below.refl _ w) _) _) _) _) _

set_option maxHeartbeats 400000 in
theorem error_any (n m : Int) (w : World) (hg : Laid w) :
    Calls Tryd.prog 17 #[errV n, .int .i64 m] w fun e w' => e = .returned (.bool (n == m)) ∧ Below w.heap.size w w' := by
  go_enter Tryd.func17, Tryd.ntmps17
  go_wp2_with fail
  refine (told_any n w hg).mono ?_
  rintro e w' ⟨rfl, hb⟩
  go_wp2
  go_ret
  exact ⟨rfl, hb⟩

end Go.Proofs.YtcenhemlgapkeaaDoor

/- The library's one variable, as a fact of a world. No condition. -/
namespace Go.Proofs.YtcenhemlgapkeaaDoor
open Go.RowKit

/-- The library's one variable, as a fact. -/
abbrev laidF : Fact := .word ⟨2, 0, none⟩ 143 (.agg #[.pointer (some ⟨3, 26, none⟩)])

theorem Env.laid {w0 w : World} {L : List Fact} (h : Env w0 w L) (i : Nat) (hi : L[i]? = some laidF) : Laid w := h.getWord i hi

end Go.Proofs.YtcenhemlgapkeaaDoor

/- The document's Square. No condition. -/
namespace Go.Proofs.YtcenhemlgapkeaaDoor
open Go.RowKit

set_option maxHeartbeats 1000000 in
theorem square_any (n : Int) (b : Option Addr) (m z : Nat) (w : World) :
    Calls Tryd.prog 20 #[.int .i64 n, .slice b m z] w fun e w' => ∃ a c, e = .returned (arrV false a 2 c b m z) ∧ Row w' a [n, n] ∧ Below w.heap.size w w' := by
  go_enter Tryd.func20, Tryd.ntmps20
  go_wp2
  refine bodyPost_ret (v := arrV false (some ⟨w.heap.size + 1, 0, none⟩) 2 2 b m z) (by simp [results, Tryd.results20, go_sem, cell?_set_same]) rfl ?_
  refine ⟨_, _, rfl, row_two (by simp [go_sem]) (by simp [go_sem]), ?_⟩
  first
    | exact push (push (start w) _) _
    | exact (((push (push (start w) _) _).setCell (by simp) _).setCell (by simp) _).setCell (by simp) _

end Go.Proofs.YtcenhemlgapkeaaDoor
