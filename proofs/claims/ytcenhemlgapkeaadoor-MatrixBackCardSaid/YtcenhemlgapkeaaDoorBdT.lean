/- Texts that lie in one file: what is plain, rows, boxes, squares, and what is known of a world. No condition. -/
import Derived.Test.YtcenhemlgapkeaaDoorBdQ
import Derived.RegionTactic
import Derived.BigRegion
import Derived.Test.YtcenhemlgapkeaaDoorSqAlloc
import Derived.Test.YtcenhemlgapkeaaDoorBdA
import Derived.Test.YtcenhemlgapkeaaDoorOutAt
import Derived.Test.YtcenhemlgapkeaaDoorBdS
/- The call square.times: the product. Condition: at most six rows. -/
namespace Go.Proofs.YtcenhemlgapkeaaDoor
open Go.RowKit

theorem below_setRow {B : Nat} {w w' : World} (h : Below B w w') (g : Nat) (cs : Array Value) (hg : B ≤ g) : Below B w (w'.setRow g cs) :=
  ⟨h.os, h.tape, h.output, by simpa using h.size, fun i hi => (setRow_other w' g i cs (by omega)).trans (h.block i hi)⟩
theorem setRow_other' {w : World} {b g : Nat} {A : Array Value} {e : TypeId} (cs : Array Value) (h : w.heap[b]? = some (.cells A e (0, 0))) (hne : b ≠ g := by omega) : (w.setRow g cs).heap[b]? = some (.cells A e (0, 0)) :=
  (setRow_other w g b cs hne).trans h

set_option maxRecDepth 20000 in
set_option maxHeartbeats 4000000 in
theorem times_any (n m : Nat) (A B : Nat → Nat → Int) (w : World) (hn : n ≤ 6) :
    Calls Tryd.prog 49 #[.agg (sqCells n A), .agg (sqCells m B)] w fun e w' => e = .returned (.agg (sqCells n (timesM n A B))) ∧ Below w.heap.size w w' := by
  obtain ⟨X0, _, _, _⟩ := sqAlloc3 w (.cells (sqCells n A) 73) (.cells (sqCells m B) 73) (.cells (sqCells 0 zeroM) 73)
  have c0 := sq_cell0 X0
  obtain ⟨Y1, Y2, Y3, Y4, Y5⟩ := sqAlloc4 w (.cells (sqCells n A) 73) (.cells (sqCells m B) 73) (.cells (sqCells 0 zeroM) 73) (.cells (sqCells 0 zeroM) 73)
  have c1 := sq_cell0 (setRow_other' (g := w.heap.size + 1 + 1 + 1) (sqCells n zeroM) Y1)
  clear X0
  go_enter Tryd.func49, Tryd.ntmps49
  go_wp2_with (first
    | (refine wpList_allocBy rfl 73 rfl (some 4) rfl (w.heap.size + 1 + 1) (by simp) (sqCells 0 zeroM) Tryd.zeroSq ?_)
    | (refine wpList_allocBy rfl 73 rfl (some 5) rfl (w.heap.size + 1 + 1 + 1) (by simp) (sqCells 0 zeroM) Tryd.zeroSq ?_)
    | (refine wpList_buildBy rfl 73 _ rfl (some 11) rfl [(0, Value.int .i64 (n : Int))] (by simp [go_sem]) (sqCells n zeroM) (Tryd.builtSq n) ?_)
    | (refine wpList_store_row rfl 73 _ _ rfl (w.heap.size + 1 + 1 + 1) (sqCells n zeroM) rfl rfl _ _ Y4 (infoSq' n zeroM) (sizeSq _ _ _ _) (sq_one _ _) ?_))
  go_loopw [14] (fun v wr => ∃ i : Nat, i ≤ n ∧ v = .int .i64 i ∧ wr.heap[w.heap.size]? = some (.cells (sqCells n A) 73 (0, 0)) ∧ wr.heap[w.heap.size + 1]? = some (.cells (sqCells m B) 73 (0, 0)) ∧ wr.heap[w.heap.size + 1 + 1]? = some (.cells (sqCells 0 zeroM) 73 (0, 0)) ∧ wr.heap[w.heap.size + 1 + 1 + 1]? = some (.cells (sqCells n (tms n A B i 0 0)) 73 (0, 0)) ∧ Below w.heap.size w wr) (fun v _ => n - (intOf v).toNat)
  case atStart =>
    refine ⟨0, Nat.zero_le _, rfl, setRow_other' _ Y1, setRow_other' _ Y2, setRow_other' _ Y3, ?_, below_setRow Y5 _ _ (by omega)⟩
    rw [tms_zero]; exact setRow_heap _ _ _ _ _ _ Y4
  case round =>
    clear Y1 Y2 Y3 Y4 Y5 c0 c1
    obtain ⟨i, hi, rfl, hq, hr, hz, ho, hbel⟩ := hrel
    by_cases hlt : i < n
    · have c0 := sq_cell0 hq
      obtain ⟨wo, hwo⟩ : ∃ wo : World, wo = wr := ⟨_, rfl⟩
      subst hwo
      replace hq := Lib.hid hq
      replace hr := Lib.hid hr
      replace hz := Lib.hid hz
      replace ho := Lib.hid ho
      go_wp2
      go_loopw [19] (fun v wr => ∃ j : Nat, j ≤ n ∧ v = .int .i64 j ∧ wr.heap[w.heap.size]? = some (.cells (sqCells n A) 73 (0, 0)) ∧ wr.heap[w.heap.size + 1]? = some (.cells (sqCells m B) 73 (0, 0)) ∧ wr.heap[w.heap.size + 1 + 1]? = some (.cells (sqCells 0 zeroM) 73 (0, 0)) ∧ wr.heap[w.heap.size + 1 + 1 + 1]? = some (.cells (sqCells n (tms n A B i j 0)) 73 (0, 0)) ∧ Below w.heap.size w wr) (fun v _ => n - (intOf v).toNat)
      case atStart => exact ⟨0, Nat.zero_le _, rfl, hq.out, hr.out, hz.out, ho.out, hbel⟩
      case round =>
        clear hq hr hz ho hbel
        obtain ⟨j, hj, rfl, hq, hr, hz, ho, hbel⟩ := hrel
        by_cases hlj : j < n
        · have c0 := sq_cell0 hq
          obtain ⟨wo, hwo⟩ : ∃ wo : World, wo = wr := ⟨_, rfl⟩
          subst hwo
          replace hq := Lib.hid hq
          replace hr := Lib.hid hr
          replace hz := Lib.hid hz
          replace ho := Lib.hid ho
          go_wp2
          go_loopw [24] (fun v wr => ∃ k : Nat, k ≤ n ∧ v = .int .i64 k ∧ wr.heap[w.heap.size]? = some (.cells (sqCells n A) 73 (0, 0)) ∧ wr.heap[w.heap.size + 1]? = some (.cells (sqCells m B) 73 (0, 0)) ∧ wr.heap[w.heap.size + 1 + 1]? = some (.cells (sqCells 0 zeroM) 73 (0, 0)) ∧ wr.heap[w.heap.size + 1 + 1 + 1]? = some (.cells (sqCells n (tms n A B i j k)) 73 (0, 0)) ∧ Below w.heap.size w wr) (fun v _ => n - (intOf v).toNat)
          case atStart => exact ⟨0, Nat.zero_le _, rfl, hq.out, hr.out, hz.out, ho.out, hbel⟩
          case round =>
            clear hq hr hz ho hbel
            obtain ⟨k, hk, rfl, hq, hr, hz, ho, hbel⟩ := hrel
            by_cases hlk : k < n
            · have c1 := sq_cell ho (i := i) (j := j) (by omega) (by omega)
              have c2 := sq_cell hq (i := i) (j := k) (by omega) (by omega)
              have c3 := sq_cell hr (i := k) (j := j) (by omega) (by omega)
              have f1 := frozen_of_row wr (w.heap.size + 1 + 1 + 1) (1 + i * 6 + j) _ 73 ho
              have hset := sq_set ho (i := i) (j := j) (by omega) (by omega) (tms n A B i j k i j + A i k * B k j)
              rw [tms_step] at hset
              have hv : wrap64 (wrap64 (tms n A B i j k i j) + wrap64 (wrap64 (A i k) * wrap64 (B k j))) = wrap64 (tms n A B i j k i j + A i k * B k j) := by
                rw [wrap_add_l, wrap_add_r, ← wrap_add_r, wrap_mul_l, wrap_mul_r, wrap_add_r]
              generalize wrap64 (tms n A B i j k i j + A i k * B k j) = nv at *
              generalize wrap64 (tms n A B i j k i j) = x1 at *
              generalize wrap64 (A i k) = x2 at *
              generalize wrap64 (B k j) = x3 at *
              replace hq := Lib.hid hq
              replace hr := Lib.hid hr
              replace hz := Lib.hid hz
              replace ho := Lib.hid ho
              replace hset := Lib.hid hset
              replace hv := Lib.hid hv
              go_wp2
              go_region
              go_wp2
              go_roundw
              case rel =>
                have hset := hset.out
                rw [← hv.out] at hset
                have ho3 : ∀ b, b ≠ w.heap.size + 1 + 1 + 1 → (wr.setCell ⟨w.heap.size + 1 + 1 + 1, 1 + i * 6 + j, none⟩ (.int .i64 (wrap64 (x1 + wrap64 (x2 * x3))))).heap[b]? = wr.heap[b]? := fun b hb => Below.heap_setCell wr _ _ b hb
                refine ⟨k + 1, by omega, by go_num, ?_, ?_, ?_, ?_, (hbel.setCell (p := ⟨w.heap.size + 1 + 1 + 1, 1 + i * 6 + j, none⟩) (by show w.heap.size ≤ w.heap.size + 1 + 1 + 1; omega) _).drew⟩
                · exact (ho3 _ (by omega)).trans hq.out
                · exact (ho3 _ (by omega)).trans hr.out
                · exact (ho3 _ (by omega)).trans hz.out
                · exact hset
              case measure => simp [intOf]; omega
            · obtain rfl : k = n := by omega
              rw [tms_next k A B hlj] at ho
              replace hq := Lib.hid hq
              replace hr := Lib.hid hr
              replace hz := Lib.hid hz
              replace ho := Lib.hid ho
              go_wp2
              go_roundw
              case rel => exact ⟨j + 1, by omega, by go_num, hq.out, hr.out, hz.out, ho.out, hbel⟩
              case measure => simp [intOf]; omega
        · obtain rfl : j = n := by omega
          rw [tms_row] at ho
          replace hq := Lib.hid hq
          replace hr := Lib.hid hr
          replace hz := Lib.hid hz
          replace ho := Lib.hid ho
          go_wp2
          go_roundw
          case rel => exact ⟨i + 1, by omega, by go_num, hq.out, hr.out, hz.out, ho.out, hbel⟩
          case measure => simp [intOf]; omega
    · obtain rfl : i = n := by omega
      rw [tms_end] at ho
      go_wp2_with (first
        | (refine wpList_load_row rfl 73 _ rfl (w.heap.size + 1 + 1 + 1) rfl _ _ _ _ ho Tryd.underlying73 rfl (infoSq' _ _) ?_)
        | (refine wpList_store_row rfl 73 _ _ rfl (w.heap.size + 1 + 1) _ rfl rfl _ _ hz (infoSq' _ _) (sizeSq _ _ _ _) (sq_one _ _) ?_))
      refine bodyPost_ret (v := .agg (sqCells i (timesM i A B))) (results_cell_row rfl _ _ (w.heap.size + 1 + 1) 73 _ (0, 0) _ rfl (setRow_heap _ _ _ _ _ _ hz) Tryd.underlying73 rfl (infoSq' _ _)) rfl ?_
      exact ⟨rfl, below_setRow hbel _ _ (by omega)⟩

end Go.Proofs.YtcenhemlgapkeaaDoor

/- The call square.plus: a number added in the diagonal. Condition: at most six rows. -/
namespace Go.Proofs.YtcenhemlgapkeaaDoor
open Go.RowKit

set_option maxRecDepth 20000 in
set_option maxHeartbeats 4000000 in
theorem plus_any (n : Nat) (A : Nat → Nat → Int) (d : Int) (w : World) (hn : n ≤ 6) :
    Calls Tryd.prog 82 #[.agg (sqCells n A), .int .i64 (wrap64 d)] w fun e w' => e = .returned (.agg (sqCells n (plusM A n d))) ∧ Below w.heap.size w w' := by
  have X0 := heap_alloc2_old w (.cells (sqCells n A) 73) (.cells (sqCells 0 zeroM) 73)
  have X1 := heap_alloc2_new w (.cells (sqCells n A) 73) (.cells (sqCells 0 zeroM) 73)
  have c0 := sq_cell0 X0
  obtain ⟨dv, hdv⟩ : ∃ dv, dv = wrap64 d := ⟨_, rfl⟩
  rw [← hdv]
  replace hdv := Lib.hid hdv
  go_enter Tryd.func82, Tryd.ntmps82
  go_wp2_with (refine wpList_allocBy rfl 73 rfl (some 4) rfl (w.heap.size + 1) (by simp) (sqCells 0 zeroM) Tryd.zeroSq ?_)
  go_loopw [8] (fun v wr => ∃ i : Nat, i ≤ n ∧ v = .int .i64 i ∧ wr.heap[w.heap.size]? = some (.cells (sqCells n (plusM A i d)) 73 (0, 0)) ∧ wr.heap[w.heap.size + 1]? = some (.cells (sqCells 0 zeroM) 73 (0, 0)) ∧ Below w.heap.size w wr) (fun v _ => n - (intOf v).toNat)
  case atStart => exact ⟨0, Nat.zero_le _, rfl, by rw [plus_zero]; exact X0, X1, ((Below.refl _ w).alloc (Nat.le_refl _) _).alloc (by simp) _⟩
  case round =>
    clear X0 X1 c0
    obtain ⟨i, hi, rfl, hq, hz, hbel⟩ := hrel
    by_cases hlt : i < n
    · have c1 := sq_cell hq (i := i) (j := i) (by omega) (by omega)
      have f1 := frozen_of_row wr w.heap.size (1 + i * 6 + i) _ 73 hq
      have hset := sq_set hq (i := i) (j := i) (by omega) (by omega) (plusM A i d i i + d)
      rw [plus_step] at hset
      have hv : wrap64 (wrap64 (plusM A i d i i) + dv) = wrap64 (plusM A i d i i + d) := by rw [hdv.out, wrap_add_l, wrap_add_r]
      generalize wrap64 (plusM A i d i i + d) = nv at *
      generalize wrap64 (plusM A i d i i) = x1 at *
      replace hq := Lib.hid hq
      replace hz := Lib.hid hz
      replace hset := Lib.hid hset
      replace hv := Lib.hid hv
      go_wp2
      go_region
      go_wp2
      go_roundw
      case rel =>
        have hset := hset.out
        rw [← hv.out] at hset
        have ho3 : ∀ b, b ≠ w.heap.size → (wr.setCell ⟨w.heap.size, 1 + i * 6 + i, none⟩ (.int .i64 (wrap64 (x1 + dv)))).heap[b]? = wr.heap[b]? := fun b hb => Below.heap_setCell wr _ _ b hb
        refine ⟨i + 1, by omega, by go_num, ?_, ?_, (hbel.setCell (p := ⟨w.heap.size, 1 + i * 6 + i, none⟩) (Nat.le_refl _) _).drew⟩
        · exact hset
        · exact (ho3 _ (by omega)).trans hz.out
      case measure => simp [intOf]; omega
    · obtain rfl : i = n := by omega
      go_wp2_with (first
        | (refine wpList_load_row rfl 73 _ rfl w.heap.size rfl _ _ _ _ hq Tryd.underlying73 rfl (infoSq' _ _) ?_)
        | (refine wpList_store_row rfl 73 _ _ rfl (w.heap.size + 1) _ rfl rfl _ _ hz (infoSq' _ _) (sizeSq _ _ _ _) (sq_one _ _) ?_))
      refine bodyPost_ret (v := .agg (sqCells i (plusM A i d))) (results_cell_row rfl _ _ (w.heap.size + 1) 73 _ (0, 0) _ rfl (setRow_heap _ _ _ _ _ _ hz) Tryd.underlying73 rfl (infoSq' _ _)) rfl ?_
      exact ⟨rfl, below_setRow hbel _ _ (by omega)⟩

end Go.Proofs.YtcenhemlgapkeaaDoor

/- The call unit: so many rows, a number in the diagonal. Condition: at most six rows. -/
namespace Go.Proofs.YtcenhemlgapkeaaDoor
open Go.RowKit

set_option maxRecDepth 20000 in
set_option maxHeartbeats 4000000 in
theorem unit_any (n : Nat) (d : Int) (w : World) (hn : n ≤ 6) :
    Calls Tryd.prog 48 #[.int .i64 (n : Int), .int .i64 (wrap64 d)] w fun e w' => e = .returned (.agg (sqCells n (unitM n d))) ∧ Below w.heap.size w w' := by
  have Y1 := heap_alloc2_old w (.cells (sqCells 0 zeroM) 73) (.cells (sqCells 0 zeroM) 73)
  have Y4 := heap_alloc2_new w (.cells (sqCells 0 zeroM) 73) (.cells (sqCells 0 zeroM) 73)
  have Y5 : Below w.heap.size w ((w.alloc (.cells (sqCells 0 zeroM) 73)).alloc (.cells (sqCells 0 zeroM) 73)) := ((Below.refl _ w).alloc (Nat.le_refl _) _).alloc (by simp) _
  obtain ⟨dv, hdv⟩ : ∃ dv, dv = wrap64 d := ⟨_, rfl⟩
  rw [← hdv]
  replace hdv := Lib.hid hdv
  go_enter Tryd.func48, Tryd.ntmps48
  go_wp2_with (first
    | (refine wpList_allocBy rfl 73 rfl (some 4) rfl w.heap.size rfl (sqCells 0 zeroM) Tryd.zeroSq ?_)
    | (refine wpList_allocBy rfl 73 rfl (some 5) rfl (w.heap.size + 1) (by simp) (sqCells 0 zeroM) Tryd.zeroSq ?_)
    | (refine wpList_buildBy rfl 73 _ rfl (some 8) rfl [(0, Value.int .i64 (n : Int))] (by simp [go_sem]) (sqCells n zeroM) (Tryd.builtSq n) ?_)
    | (refine wpList_store_row rfl 73 _ _ rfl (w.heap.size + 1) (sqCells n zeroM) rfl rfl _ _ Y4 (infoSq' n zeroM) (sizeSq _ _ _ _) (sq_one _ _) ?_))
  go_loopw [10] (fun v wr => ∃ i : Nat, i ≤ n ∧ v = .int .i64 i ∧ wr.heap[w.heap.size]? = some (.cells (sqCells 0 zeroM) 73 (0, 0)) ∧ wr.heap[w.heap.size + 1]? = some (.cells (sqCells n (unitM i d)) 73 (0, 0)) ∧ Below w.heap.size w wr) (fun v _ => n - (intOf v).toNat)
  case atStart =>
    refine ⟨0, Nat.zero_le _, rfl, setRow_other' _ Y1, ?_, below_setRow Y5 _ _ (by omega)⟩
    rw [unit_zero]; exact setRow_heap _ _ _ _ _ _ Y4
  case round =>
    clear Y1 Y4 Y5
    obtain ⟨i, hi, rfl, hz, hq, hbel⟩ := hrel
    by_cases hlt : i < n
    · have c1 := sq_cell hq (i := i) (j := i) (by omega) (by omega)
      have f1 := frozen_of_row wr (w.heap.size + 1) (1 + i * 6 + i) _ 73 hq
      have hset := sq_set hq (i := i) (j := i) (by omega) (by omega) d
      rw [unit_step, ← hdv.out] at hset
      generalize wrap64 (unitM i d i i) = x1 at *
      replace hq := Lib.hid hq
      replace hz := Lib.hid hz
      replace hset := Lib.hid hset
      go_wp2
      go_roundw
      case rel =>
        have ho3 : ∀ b, b ≠ w.heap.size + 1 → (wr.setCell ⟨w.heap.size + 1, 1 + i * 6 + i, none⟩ (.int .i64 dv)).heap[b]? = wr.heap[b]? := fun b hb => Below.heap_setCell wr _ _ b hb
        refine ⟨i + 1, by omega, by go_num, ?_, ?_, (hbel.setCell (p := ⟨w.heap.size + 1, 1 + i * 6 + i, none⟩) (by show w.heap.size ≤ w.heap.size + 1; omega) _)⟩
        · exact (ho3 _ (by omega)).trans hz.out
        · exact hset.out
      case measure => simp [intOf]; omega
    · obtain rfl : i = n := by omega
      go_wp2_with (first
        | (refine wpList_load_row rfl 73 _ rfl (w.heap.size + 1) rfl _ _ _ _ hq Tryd.underlying73 rfl (infoSq' _ _) ?_)
        | (refine wpList_store_row rfl 73 _ _ rfl w.heap.size _ rfl rfl _ _ hz (infoSq' _ _) (sizeSq _ _ _ _) (sq_one _ _) ?_))
      refine bodyPost_ret (v := .agg (sqCells i (unitM i d))) (results_cell_row rfl _ _ w.heap.size 73 _ (0, 0) _ rfl (setRow_heap _ _ _ _ _ _ hz) Tryd.underlying73 rfl (infoSq' _ _)) rfl ?_
      exact ⟨rfl, below_setRow hbel _ _ (Nat.le_refl _)⟩

end Go.Proofs.YtcenhemlgapkeaaDoor

/- The call square.told: a square as an array. Condition: at most six rows. -/
namespace Go.Proofs.YtcenhemlgapkeaaDoor
open Go.RowKit

theorem sq_row {W : World} {b n m : Nat} {A : Nat → Nat → Int} {e : TypeId} (h : W.heap[b]? = some (.cells (sqCells m A) e (0, 0))) {i : Nat} (hi : i < 6) (hn : n ≤ 6) : Row W (some ⟨b, 1 + i * 6, none⟩) (sqRow n A i) := by
  intro j hj
  rw [sqRow_length] at hj
  refine ⟨_, _, rfl, ?_⟩
  rw [sq_cell h hi (by omega)]
  simp [sqRow, hj]

set_option maxHeartbeats 4000000 in
theorem sqTold_any (n : Nat) (A : Nat → Nat → Int) (w : World) (hn : n ≤ 6) :
    Calls Tryd.prog 50 #[.agg (sqCells n A)] w fun e w' => VecPostF ⟨false, [(n : Int), (n : Int)], sqList n A⟩ w e w' := by
  have E := ((Env.start w).alloc (.cells (sqCells n A) 73)).box false none 0 0 none 0 0
  rw [World.size_alloc] at E
  have X0 := heap_alloc2_old w (.cells (sqCells n A) 73) (.cells #[.bool false, .slice none 0 0, .slice none 0 0] 24)
  have c0 := sq_cell0 X0
  have Z0 := E.getBox 0 rfl
  have E4 := (E.alloc (.cells #[.int .i64 (n : Int), .int .i64 (n : Int)] 3)).box false (some ⟨w.heap.size + 1 + 1, 0, none⟩) 2 2 none 0 0
  simp only [World.size_alloc] at E4
  obtain ⟨wB, hwB⟩ : ∃ wB : World, wB = (((w.alloc (.cells (sqCells n A) 73)).alloc (.cells #[.bool false, .slice none 0 0, .slice none 0 0] 24)).alloc (.cells #[.int .i64 (n : Int), .int .i64 (n : Int)] 3)).alloc (.cells #[.bool false, .slice (some ⟨w.heap.size + 1 + 1, 0, none⟩) 2 2, .slice none 0 0] 24) := ⟨_, rfl⟩
  rw [← hwB] at E4
  have SB : wB.heap.size = w.heap.size + 1 + 1 + 1 + 1 := by rw [hwB]; simp
  have QB : wB.heap[w.heap.size]? = some (.cells (sqCells n A) 73 (0, 0)) := by
    rw [hwB, heap_alloc_old _ _ (by simp; omega), heap_alloc_old _ _ (by simp; omega)]; exact X0
  have RB : wB.heap[w.heap.size + 1 + 1]? = some (.cells #[.int .i64 (n : Int), .int .i64 (n : Int)] 3 (0, 0)) := by
    rw [hwB, heap_alloc_old _ _ (by simp)]
    have := heap_alloc_new ((w.alloc (.cells (sqCells n A) 73)).alloc (.cells #[.bool false, .slice none 0 0, .slice none 0 0] 24)) (.cells #[.int .i64 (n : Int), .int .i64 (n : Int)] 3)
    rw [World.size_alloc, World.size_alloc] at this
    exact this
  have ZB := E4.getBox 1 rfl
  have OB : OutAt w wB (w.heap.size + 1 + 1 + 1) (w.heap.size + 1 + 1 + 1 + 1) false (.slice (some ⟨w.heap.size + 1 + 1, 0, none⟩) 2 2) (.slice none 0 0) [] wB := by
    obtain ⟨⟨x0, x1, x2⟩, y0, y1, y2⟩ := E4.getBox 0 rfl
    exact ⟨⟨⟨x0, x1, x2⟩, y2⟩, Own.nil _ _, E4.bel, by omega, fun b _ _ => rfl⟩
  clear E E4
  replace QB := Lib.hid QB
  replace RB := Lib.hid RB
  replace ZB := Lib.hid ZB
  replace OB := Lib.hid OB
  replace SB := Lib.hid SB
  replace hwB := Lib.hid hwB
  replace X0 := Lib.hid X0
  have hLn := Lib.hid (sqList_length n A)
  have hN1 := Lib.hid (show w.heap.size ≤ w.heap.size + 1 + 1 + 1 by omega)
  go_enter Tryd.func50, Tryd.ntmps50
  go_wp2
  go_loopw [13] (fun v wr => ∃ (i : Nat) (dv : Value), i ≤ n ∧ v = .int .i64 i ∧ OutAt w wB (w.heap.size + 1 + 1 + 1) (w.heap.size + 1 + 1 + 1 + 1) false (.slice (some ⟨w.heap.size + 1 + 1, 0, none⟩) 2 2) dv ((sqList n A).take (i * n)) wr) (fun v _ => n - (intOf v).toNat)
  case atStart =>
    refine ⟨0, .slice none 0 0, Nat.zero_le _, rfl, ?_⟩
    rw [Nat.zero_mul, List.take_zero, ← hwB.out]
    exact OB.out
  case round =>
    obtain ⟨i, dv, hin, rfl, hO⟩ := hrel
    clear c0
    by_cases hlt : i < n
    · obtain ⟨⟨⟨c0, c1, c2⟩, f2⟩, hown, hbel, hsz2, hrest⟩ := id hO
      have hQ := (hrest w.heap.size (by omega) (by omega)).trans QB.out
      have cn := sq_cell0 hQ
      have hrow := sq_row hQ (n := n) (i := i) (by omega) hn
      have htk := sqList_take A hlt
      have hnn : (i + 1) * n ≤ n * n := Nat.mul_le_mul_right n hlt
      have hn2 : n * n ≤ 6 * 6 := Nat.mul_le_mul hn hn
      have hlk : ((sqList n A).take (i * n)).length = i * n := by rw [List.length_take, hLn.out]; rw [Nat.add_mul] at hnn; omega
      have hin2 : i * n ≤ 36 := by rw [Nat.add_mul] at hnn; omega
      have hrl := sqRow_length n A i
      obtain ⟨q, hq2⟩ : ∃ q, q = i * n := ⟨_, rfl⟩
      rw [← hq2] at hlk hown hO htk hin2
      generalize (sqList n A).take q = ys at *
      generalize sqRow n A i = zs at *
      obtain ⟨av, cv, rfl, _, _, _⟩ := hown.view
      rw [hlk] at c2 hown hO
      have i6 : (i : Int) < 6 := by omega
      have n6 : (n : Int) ≤ 6 := by omega
      have hBr : Below (w.heap.size + 1 + 1 + 1 + 1) wr wr.drew := (Below.refl _ wr).drew
      have hown' : Own wr.drew (w.heap.size + 1 + 1 + 1 + 1) (.slice av q cv) ys := hown
      have hrow' : Row wr.drew (some ⟨w.heap.size, 1 + i * 6, none⟩) zs := hrow
      have hlen : ys.length + zs.length < 17592186044416 := by omega
      have hlk2 := Lib.hid (show q + n = ys.length + zs.length by rw [hlk, hrl])
      clear hown hrest hrow hQ
      replace hlk := Lib.hid hlk
      replace hrl := Lib.hid hrl
      replace htk := Lib.hid htk
      replace hq2 := Lib.hid hq2
      clear hnn hn2
      go_wp2_with fail
      go_region_law ((refine step_app_row rfl (.tmp 17) (.tmp 23) rfl (w.heap.size + 1 + 1 + 1 + 1) _ ys zs ⟨w.heap.size, 1 + i * 6, none⟩ n 6 rfl hown' rfl hrl.out.symm hrow' hlen (by simp; omega) (q + n) hlk2.out ?_; intro a' c' w' ho' hb'; have d2 := (hb'.cell (by show w.heap.size + 1 + 1 + 1 < _; omega)).trans ((hBr.cell (by show w.heap.size + 1 + 1 + 1 < _; omega)).trans c2); have g2 := (hb'.frozen (by show w.heap.size + 1 + 1 + 1 < _; omega)).trans ((hBr.frozen (by show w.heap.size + 1 + 1 + 1 < _; omega)).trans f2)))
      all_goals go_wp2
      all_goals go_roundw
      all_goals
        first
          | exact ⟨i + 1, _, by omega, by go_num, by rw [htk.out]; exact hO.step hN1.out (Nat.lt_succ_self _) (hBr.trans hb') ho'⟩
          | (simp [intOf]; omega)
    · obtain rfl : i = n := by omega
      rw [List.take_of_length_le (by rw [hLn.out]; exact Nat.le_refl _)] at hO
      obtain ⟨⟨z0, z1, z2⟩, g0, g1, g2⟩ := hO.box (by omega) (by omega) ZB.out
      obtain ⟨⟨⟨c0, c1, c2⟩, f2⟩, hown, hbel, hsz2, hrest⟩ := id hO
      have hRB := (hrest (w.heap.size + 1 + 1) (by omega) (by omega)).trans RB.out
      have hrow : Row wr (some ⟨w.heap.size + 1 + 1, 0, none⟩) [(i : Int), (i : Int)] := row_two (by rw [cell_of_row _ _ _ _ _ _ hRB]; rfl) (by rw [cell_of_row _ _ _ _ _ _ hRB]; rfl)
      have hne : w.heap.size + 1 ≠ w.heap.size + 1 + 1 := by omega
      have p5 : w.heap.size + 1 < w.heap.size + 1 + 1 + 1 + 1 := by omega
      obtain ⟨av, cv, rfl, _, _, rv⟩ := hown.view
      clear hrest hRB hO
      go_wp2
      refine bodyPost_ret (v := arrV false (some ⟨w.heap.size + 1 + 1, 0, none⟩) 2 2 av (sqList i A).length cv) (by simp [results, Tryd.results50, go_sem, cell?_set_same, z0, z1, z2]) rfl ?_
      exact ⟨_, _, _, _, rfl, ((hrow.setFar _ _ hne).setFar _ _ hne).setFar _ _ hne, (((hown.setCell _ _ p5).setCell _ _ p5).setCell _ _ p5).row, fun p e => by cases e; show w.heap.size ≤ w.heap.size + 1 + 1; omega, fun p e => by have := own_fresh hown p e; omega, Nat.le_refl _, set3 hbel (by omega) _ _ _⟩

end Go.Proofs.YtcenhemlgapkeaaDoor
