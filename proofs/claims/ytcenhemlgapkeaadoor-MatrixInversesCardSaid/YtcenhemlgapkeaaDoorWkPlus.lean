/- The call square.plus: a number added in the diagonal. Condition: at most six rows. -/
import Derived.Test.YtcenhemlgapkeaaDoorBdQ
import Derived.Test.YtcenhemlgapkeaaDoorSqAlloc
import Derived.Test.YtcenhemlgapkeaaDoorWkTimes
import Derived.RegionTactic
import Derived.BigRegion
namespace Go.Proofs.YtcenhemlgapkeaaDoor
open Go.RowKit

set_option maxRecDepth 20000 in
set_option maxHeartbeats 4000000 in
theorem plus_any (n : Nat) (A : Nat → Nat → Int) (d : Int) (w : World) (hn : n ≤ 6) :
    Calls Tryd.prog 82 #[.agg (sqCells n A), .int .i64 (wrap64 d)] w fun e w' => e = .returned (.agg (sqCells n (plusM A n d))) ∧ Below w.heap.size w w' := by
  have X0 := heap_alloc2_old w (.cells (sqCells n A) 73) (.cells (sqCells 0 zeroM) 73)
  have X1 := heap_alloc2_new w (.cells (sqCells n A) 73) (.cells (sqCells 0 zeroM) 73)
  have c0 := sq_cell0 X0
  obtain ⟨dv, hdv⟩ : ∃ dv, dv = wrap64 d := ⟨_, rfl⟩
  rw [← hdv]
  replace hdv := Lib.hid hdv
  go_enter Tryd.func82, Tryd.ntmps82
  go_wp2_with (refine wpList_allocBy rfl 73 rfl (some 4) rfl (w.heap.size + 1) (by simp) (sqCells 0 zeroM) Tryd.zeroSq ?_)
  go_loopw [8] (fun v wr => ∃ i : Nat, i ≤ n ∧ v = .int .i64 i ∧ wr.heap[w.heap.size]? = some (.cells (sqCells n (plusM A i d)) 73 (0, 0)) ∧ wr.heap[w.heap.size + 1]? = some (.cells (sqCells 0 zeroM) 73 (0, 0)) ∧ Below w.heap.size w wr) (fun v _ => n - (intOf v).toNat)
  case atStart => exact ⟨0, Nat.zero_le _, rfl, by rw [plus_zero]; exact X0, X1, ((Below.refl _ w).alloc (Nat.le_refl _) _).alloc (by simp) _⟩
  case round =>
    clear X0 X1 c0
    obtain ⟨i, hi, rfl, hq, hz, hbel⟩ := hrel
    by_cases hlt : i < n
    · have c1 := sq_cell hq (i := i) (j := i) (by omega) (by omega)
      have f1 := frozen_of_row wr w.heap.size (1 + i * 6 + i) _ 73 hq
      have hset := sq_set hq (i := i) (j := i) (by omega) (by omega) (plusM A i d i i + d)
      rw [plus_step] at hset
      have hv : wrap64 (wrap64 (plusM A i d i i) + dv) = wrap64 (plusM A i d i i + d) := by rw [hdv.out, wrap_add_l, wrap_add_r]
      generalize wrap64 (plusM A i d i i + d) = nv at *
      generalize wrap64 (plusM A i d i i) = x1 at *
      replace hq := Lib.hid hq
      replace hz := Lib.hid hz
      replace hset := Lib.hid hset
      replace hv := Lib.hid hv
      go_wp2
      go_region
      go_wp2
      go_roundw
      case rel =>
        have hset := hset.out
        rw [← hv.out] at hset
        have ho3 : ∀ b, b ≠ w.heap.size → (wr.setCell ⟨w.heap.size, 1 + i * 6 + i, none⟩ (.int .i64 (wrap64 (x1 + dv)))).heap[b]? = wr.heap[b]? := fun b hb => Below.heap_setCell wr _ _ b hb
        refine ⟨i + 1, by omega, by go_num, ?_, ?_, (hbel.setCell (p := ⟨w.heap.size, 1 + i * 6 + i, none⟩) (Nat.le_refl _) _).drew⟩
        · exact hset
        · exact (ho3 _ (by omega)).trans hz.out
      case measure => simp [intOf]; omega
    · obtain rfl : i = n := by omega
      go_wp2_with (first
        | (refine wpList_load_row rfl 73 _ rfl w.heap.size rfl _ _ _ _ hq Tryd.underlying73 rfl (infoSq' _ _) ?_)
        | (refine wpList_store_row rfl 73 _ _ rfl (w.heap.size + 1) _ rfl rfl _ _ hz (infoSq' _ _) (sizeSq _ _ _ _) (sq_one _ _) ?_))
      refine bodyPost_ret (v := .agg (sqCells i (plusM A i d))) (results_cell_row rfl _ _ (w.heap.size + 1) 73 _ (0, 0) _ rfl (setRow_heap _ _ _ _ _ _ hz) Tryd.underlying73 rfl (infoSq' _ _)) rfl ?_
      exact ⟨rfl, below_setRow hbel _ _ (by omega)⟩

end Go.Proofs.YtcenhemlgapkeaaDoor
