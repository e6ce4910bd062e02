/- The call square.times: the product. Condition: at most six rows. -/
import Derived.Test.YtcenhemlgapkeaaDoorBdQ
import Derived.RegionTactic
import Derived.BigRegion
import Derived.Test.YtcenhemlgapkeaaDoorSqAlloc
namespace Go.Proofs.YtcenhemlgapkeaaDoor
open Go.RowKit

theorem below_setRow {B : Nat} {w w' : World} (h : Below B w w') (g : Nat) (cs : Array Value) (hg : B ≤ g) : Below B w (w'.setRow g cs) :=
  ⟨h.os, h.tape, h.output, by simpa using h.size, fun i hi => (setRow_other w' g i cs (by omega)).trans (h.block i hi)⟩
theorem setRow_other' {w : World} {b g : Nat} {A : Array Value} {e : TypeId} (cs : Array Value) (h : w.heap[b]? = some (.cells A e (0, 0))) (hne : b ≠ g := by omega) : (w.setRow g cs).heap[b]? = some (.cells A e (0, 0)) :=
  (setRow_other w g b cs hne).trans h

set_option maxRecDepth 20000 in
set_option maxHeartbeats 4000000 in
theorem times_any (n m : Nat) (A B : Nat → Nat → Int) (w : World) (hn : n ≤ 6) :
    Calls Tryd.prog 49 #[.agg (sqCells n A), .agg (sqCells m B)] w fun e w' => e = .returned (.agg (sqCells n (timesM n A B))) ∧ Below w.heap.size w w' := by
  obtain ⟨X0, _, _, _⟩ := sqAlloc3 w (.cells (sqCells n A) 73) (.cells (sqCells m B) 73) (.cells (sqCells 0 zeroM) 73)
  have c0 := sq_cell0 X0
  obtain ⟨Y1, Y2, Y3, Y4, Y5⟩ := sqAlloc4 w (.cells (sqCells n A) 73) (.cells (sqCells m B) 73) (.cells (sqCells 0 zeroM) 73) (.cells (sqCells 0 zeroM) 73)
  have c1 := sq_cell0 (setRow_other' (g := w.heap.size + 1 + 1 + 1) (sqCells n zeroM) Y1)
  clear X0
  go_enter Tryd.func49, Tryd.ntmps49
  go_wp2_with (first
    | (refine wpList_allocBy rfl 73 rfl (some 4) rfl (w.heap.size + 1 + 1) (by simp) (sqCells 0 zeroM) Tryd.zeroSq ?_)
    | (refine wpList_allocBy rfl 73 rfl (some 5) rfl (w.heap.size + 1 + 1 + 1) (by simp) (sqCells 0 zeroM) Tryd.zeroSq ?_)
    | (refine wpList_buildBy rfl 73 _ rfl (some 11) rfl [(0, Value.int .i64 (n : Int))] (by simp [go_sem]) (sqCells n zeroM) (Tryd.builtSq n) ?_)
    | (refine wpList_store_row rfl 73 _ _ rfl (w.heap.size + 1 + 1 + 1) (sqCells n zeroM) rfl rfl _ _ Y4 (infoSq' n zeroM) (sizeSq _ _ _ _) (sq_one _ _) ?_))
  go_loopw [14] (fun v wr => ∃ i : Nat, i ≤ n ∧ v = .int .i64 i ∧ wr.heap[w.heap.size]? = some (.cells (sqCells n A) 73 (0, 0)) ∧ wr.heap[w.heap.size + 1]? = some (.cells (sqCells m B) 73 (0, 0)) ∧ wr.heap[w.heap.size + 1 + 1]? = some (.cells (sqCells 0 zeroM) 73 (0, 0)) ∧ wr.heap[w.heap.size + 1 + 1 + 1]? = some (.cells (sqCells n (tms n A B i 0 0)) 73 (0, 0)) ∧ Below w.heap.size w wr) (fun v _ => n - (intOf v).toNat)
  case atStart =>
    refine ⟨0, Nat.zero_le _, rfl, setRow_other' _ Y1, setRow_other' _ Y2, setRow_other' _ Y3, ?_, below_setRow Y5 _ _ (by omega)⟩
    rw [tms_zero]; exact setRow_heap _ _ _ _ _ _ Y4
  case round =>
    clear Y1 Y2 Y3 Y4 Y5 c0 c1
    obtain ⟨i, hi, rfl, hq, hr, hz, ho, hbel⟩ := hrel
    by_cases hlt : i < n
    · have c0 := sq_cell0 hq
      obtain ⟨wo, hwo⟩ : ∃ wo : World, wo = wr := ⟨_, rfl⟩
      subst hwo
      replace hq := Lib.hid hq
      replace hr := Lib.hid hr
      replace hz := Lib.hid hz
      replace ho := Lib.hid ho
      go_wp2
      go_loopw [19] (fun v wr => ∃ j : Nat, j ≤ n ∧ v = .int .i64 j ∧ wr.heap[w.heap.size]? = some (.cells (sqCells n A) 73 (0, 0)) ∧ wr.heap[w.heap.size + 1]? = some (.cells (sqCells m B) 73 (0, 0)) ∧ wr.heap[w.heap.size + 1 + 1]? = some (.cells (sqCells 0 zeroM) 73 (0, 0)) ∧ wr.heap[w.heap.size + 1 + 1 + 1]? = some (.cells (sqCells n (tms n A B i j 0)) 73 (0, 0)) ∧ Below w.heap.size w wr) (fun v _ => n - (intOf v).toNat)
      case atStart => exact ⟨0, Nat.zero_le _, rfl, hq.out, hr.out, hz.out, ho.out, hbel⟩
      case round =>
        clear hq hr hz ho hbel
        obtain ⟨j, hj, rfl, hq, hr, hz, ho, hbel⟩ := hrel
        by_cases hlj : j < n
        · have c0 := sq_cell0 hq
          obtain ⟨wo, hwo⟩ : ∃ wo : World, wo = wr := ⟨_, rfl⟩
          subst hwo
          replace hq := Lib.hid hq
          replace hr := Lib.hid hr
          replace hz := Lib.hid hz
          replace ho := Lib.hid ho
          go_wp2
          go_loopw [24] (fun v wr => ∃ k : Nat, k ≤ n ∧ v = .int .i64 k ∧ wr.heap[w.heap.size]? = some (.cells (sqCells n A) 73 (0, 0)) ∧ wr.heap[w.heap.size + 1]? = some (.cells (sqCells m B) 73 (0, 0)) ∧ wr.heap[w.heap.size + 1 + 1]? = some (.cells (sqCells 0 zeroM) 73 (0, 0)) ∧ wr.heap[w.heap.size + 1 + 1 + 1]? = some (.cells (sqCells n (tms n A B i j k)) 73 (0, 0)) ∧ Below w.heap.size w wr) (fun v _ => n - (intOf v).toNat)
          case atStart => exact ⟨0, Nat.zero_le _, rfl, hq.out, hr.out, hz.out, ho.out, hbel⟩
          case round =>
            clear hq hr hz ho hbel
            obtain ⟨k, hk, rfl, hq, hr, hz, ho, hbel⟩ := hrel
            by_cases hlk : k < n
            · have c1 := sq_cell ho (i := i) (j := j) (by omega) (by omega)
              have c2 := sq_cell hq (i := i) (j := k) (by omega) (by omega)
              have c3 := sq_cell hr (i := k) (j := j) (by omega) (by omega)
              have f1 := frozen_of_row wr (w.heap.size + 1 + 1 + 1) (1 + i * 6 + j) _ 73 ho
              have hset := sq_set ho (i := i) (j := j) (by omega) (by omega) (tms n A B i j k i j + A i k * B k j)
              rw [tms_step] at hset
              have hv : wrap64 (wrap64 (tms n A B i j k i j) + wrap64 (wrap64 (A i k) * wrap64 (B k j))) = wrap64 (tms n A B i j k i j + A i k * B k j) := by
                rw [wrap_add_l, wrap_add_r, ← wrap_add_r, wrap_mul_l, wrap_mul_r, wrap_add_r]
              generalize wrap64 (tms n A B i j k i j + A i k * B k j) = nv at *
              generalize wrap64 (tms n A B i j k i j) = x1 at *
              generalize wrap64 (A i k) = x2 at *
              generalize wrap64 (B k j) = x3 at *
              replace hq := Lib.hid hq
              replace hr := Lib.hid hr
              replace hz := Lib.hid hz
              replace ho := Lib.hid ho
              replace hset := Lib.hid hset
              replace hv := Lib.hid hv
              go_wp2
              go_region
              go_wp2
              go_roundw
              case rel =>
                have hset := hset.out
                rw [← hv.out] at hset
                have ho3 : ∀ b, b ≠ w.heap.size + 1 + 1 + 1 → (wr.setCell ⟨w.heap.size + 1 + 1 + 1, 1 + i * 6 + j, none⟩ (.int .i64 (wrap64 (x1 + wrap64 (x2 * x3))))).heap[b]? = wr.heap[b]? := fun b hb => Below.heap_setCell wr _ _ b hb
                refine ⟨k + 1, by omega, by go_num, ?_, ?_, ?_, ?_, (hbel.setCell (p := ⟨w.heap.size + 1 + 1 + 1, 1 + i * 6 + j, none⟩) (by show w.heap.size ≤ w.heap.size + 1 + 1 + 1; omega) _).drew⟩
                · exact (ho3 _ (by omega)).trans hq.out
                · exact (ho3 _ (by omega)).trans hr.out
                · exact (ho3 _ (by omega)).trans hz.out
                · exact hset
              case measure => simp [intOf]; omega
            · obtain rfl : k = n := by omega
              rw [tms_next k A B hlj] at ho
              replace hq := Lib.hid hq
              replace hr := Lib.hid hr
              replace hz := Lib.hid hz
              replace ho := Lib.hid ho
              go_wp2
              go_roundw
              case rel => exact ⟨j + 1, by omega, by go_num, hq.out, hr.out, hz.out, ho.out, hbel⟩
              case measure => simp [intOf]; omega
        · obtain rfl : j = n := by omega
          rw [tms_row] at ho
          replace hq := Lib.hid hq
          replace hr := Lib.hid hr
          replace hz := Lib.hid hz
          replace ho := Lib.hid ho
          go_wp2
          go_roundw
          case rel => exact ⟨i + 1, by omega, by go_num, hq.out, hr.out, hz.out, ho.out, hbel⟩
          case measure => simp [intOf]; omega
    · obtain rfl : i = n := by omega
      rw [tms_end] at ho
      go_wp2_with (first
        | (refine wpList_load_row rfl 73 _ rfl (w.heap.size + 1 + 1 + 1) rfl _ _ _ _ ho Tryd.underlying73 rfl (infoSq' _ _) ?_)
        | (refine wpList_store_row rfl 73 _ _ rfl (w.heap.size + 1 + 1) _ rfl rfl _ _ hz (infoSq' _ _) (sizeSq _ _ _ _) (sq_one _ _) ?_))
      refine bodyPost_ret (v := .agg (sqCells i (timesM i A B))) (results_cell_row rfl _ _ (w.heap.size + 1 + 1) 73 _ (0, 0) _ rfl (setRow_heap _ _ _ _ _ _ hz) Tryd.underlying73 rfl (infoSq' _ _)) rfl ?_
      exact ⟨rfl, below_setRow hbel _ _ (by omega)⟩

end Go.Proofs.YtcenhemlgapkeaaDoor
