/- The call unit: so many rows, a number in the diagonal. Condition: at most six rows. -/
import Derived.Test.YtcenhemlgapkeaaDoorBdQ
import Derived.Test.YtcenhemlgapkeaaDoorSqAlloc
import Derived.Test.YtcenhemlgapkeaaDoorWkTimes
import Derived.RegionTactic
import Derived.BigRegion
namespace Go.Proofs.YtcenhemlgapkeaaDoor
open Go.RowKit

set_option maxRecDepth 20000 in
set_option maxHeartbeats 4000000 in
theorem unit_any (n : Nat) (d : Int) (w : World) (hn : n ≤ 6) :
    Calls Tryd.prog 48 #[.int .i64 (n : Int), .int .i64 (wrap64 d)] w fun e w' => e = .returned (.agg (sqCells n (unitM n d))) ∧ Below w.heap.size w w' := by
  have Y1 := heap_alloc2_old w (.cells (sqCells 0 zeroM) 73) (.cells (sqCells 0 zeroM) 73)
  have Y4 := heap_alloc2_new w (.cells (sqCells 0 zeroM) 73) (.cells (sqCells 0 zeroM) 73)
  have Y5 : Below w.heap.size w ((w.alloc (.cells (sqCells 0 zeroM) 73)).alloc (.cells (sqCells 0 zeroM) 73)) := ((Below.refl _ w).alloc (Nat.le_refl _) _).alloc (by simp) _
  obtain ⟨dv, hdv⟩ : ∃ dv, dv = wrap64 d := ⟨_, rfl⟩
  rw [← hdv]
  replace hdv := Lib.hid hdv
  go_enter Tryd.func48, Tryd.ntmps48
  go_wp2_with (first
    | (refine wpList_allocBy rfl 73 rfl (some 4) rfl w.heap.size rfl (sqCells 0 zeroM) Tryd.zeroSq ?_)
    | (refine wpList_allocBy rfl 73 rfl (some 5) rfl (w.heap.size + 1) (by simp) (sqCells 0 zeroM) Tryd.zeroSq ?_)
    | (refine wpList_buildBy rfl 73 _ rfl (some 8) rfl [(0, Value.int .i64 (n : Int))] (by simp [go_sem]) (sqCells n zeroM) (Tryd.builtSq n) ?_)
    | (refine wpList_store_row rfl 73 _ _ rfl (w.heap.size + 1) (sqCells n zeroM) rfl rfl _ _ Y4 (infoSq' n zeroM) (sizeSq _ _ _ _) (sq_one _ _) ?_))
  go_loopw [10] (fun v wr => ∃ i : Nat, i ≤ n ∧ v = .int .i64 i ∧ wr.heap[w.heap.size]? = some (.cells (sqCells 0 zeroM) 73 (0, 0)) ∧ wr.heap[w.heap.size + 1]? = some (.cells (sqCells n (unitM i d)) 73 (0, 0)) ∧ Below w.heap.size w wr) (fun v _ => n - (intOf v).toNat)
  case atStart =>
    refine ⟨0, Nat.zero_le _, rfl, setRow_other' _ Y1, ?_, below_setRow Y5 _ _ (by omega)⟩
    rw [unit_zero]; exact setRow_heap _ _ _ _ _ _ Y4
  case round =>
    clear Y1 Y4 Y5
    obtain ⟨i, hi, rfl, hz, hq, hbel⟩ := hrel
    by_cases hlt : i < n
    · have c1 := sq_cell hq (i := i) (j := i) (by omega) (by omega)
      have f1 := frozen_of_row wr (w.heap.size + 1) (1 + i * 6 + i) _ 73 hq
      have hset := sq_set hq (i := i) (j := i) (by omega) (by omega) d
      rw [unit_step, ← hdv.out] at hset
      generalize wrap64 (unitM i d i i) = x1 at *
      replace hq := Lib.hid hq
      replace hz := Lib.hid hz
      replace hset := Lib.hid hset
      go_wp2
      go_roundw
      case rel =>
        have ho3 : ∀ b, b ≠ w.heap.size + 1 → (wr.setCell ⟨w.heap.size + 1, 1 + i * 6 + i, none⟩ (.int .i64 dv)).heap[b]? = wr.heap[b]? := fun b hb => Below.heap_setCell wr _ _ b hb
        refine ⟨i + 1, by omega, by go_num, ?_, ?_, (hbel.setCell (p := ⟨w.heap.size + 1, 1 + i * 6 + i, none⟩) (by show w.heap.size ≤ w.heap.size + 1; omega) _)⟩
        · exact (ho3 _ (by omega)).trans hz.out
        · exact hset.out
      case measure => simp [intOf]; omega
    · obtain rfl : i = n := by omega
      go_wp2_with (first
        | (refine wpList_load_row rfl 73 _ rfl (w.heap.size + 1) rfl _ _ _ _ hq Tryd.underlying73 rfl (infoSq' _ _) ?_)
        | (refine wpList_store_row rfl 73 _ _ rfl w.heap.size _ rfl rfl _ _ hz (infoSq' _ _) (sizeSq _ _ _ _) (sq_one _ _) ?_))
      refine bodyPost_ret (v := .agg (sqCells i (unitM i d))) (results_cell_row rfl _ _ w.heap.size 73 _ (0, 0) _ rfl (setRow_heap _ _ _ _ _ _ hz) Tryd.underlying73 rfl (infoSq' _ _)) rfl ?_
      exact ⟨rfl, below_setRow hbel _ _ (Nat.le_refl _)⟩

end Go.Proofs.YtcenhemlgapkeaaDoor
