/- The call square.det: the determinant. Condition: at most six rows. -/
import Derived.Test.YtcenhemlgapkeaaDoorWkChar
import Derived.Test.YtcenhemlgapkeaaDoorWkTimes
namespace Go.Proofs.YtcenhemlgapkeaaDoor
open Go.RowKit

theorem sg_odd {n : Nat} (h : n % 2 = 1) (d : Int) : -(Mx.sg (R := Int) n * d) = d := by
  unfold Mx.sg; rw [if_neg (by omega)]; omega
theorem sg_even' {n : Nat} (h : n % 2 = 0) (d : Int) : Mx.sg (R := Int) n * d = d := by
  unfold Mx.sg; rw [if_pos h]; omega

set_option maxRecDepth 20000 in
set_option maxHeartbeats 4000000 in
theorem detM_any (n : Nat) (A : Nat → Nat → Int) (w : World) (hn : n ≤ 6) :
    Calls Tryd.prog 53 #[.agg (sqCells n A)] w fun e w' => e = .returned (.int .i64 (wrap64 (Mx.det n A))) ∧ Below w.heap.size w w' := by
  have Q0 := heap_alloc_new w (.cells (sqCells n A) 73)
  go_enter Tryd.func53, Tryd.ntmps53
  go_wp2_with (refine wpList_load_row rfl 73 _ rfl w.heap.size rfl _ _ _ _ Q0 Tryd.underlying73 rfl (infoSq' _ _) ?_)
  refine (char_any n A _ hn).mono ?_
  rintro e w1 ⟨g, rfl, hg, hr, hb⟩
  have Q1 := (hb.block w.heap.size (by simp)).trans Q0
  have c0 := sq_cell0 Q1
  have c1 := row_cell hr (Nat.lt_succ_self n)
  rw [Mx.chi_top] at c1
  have hbel := push (start w) (.cells (sqCells n A) 73)
  have hb2 := below_trans hbel hb
  clear Q0 hbel hb
  replace Q1 := Lib.hid Q1
  replace hr := Lib.hid hr
  have n6 : (n : Int) ≤ 6 := by omega
  rcases Nat.mod_two_eq_zero_or_one n with h | h
  · rw [sg_even' h] at c1
    have e1 : ((n : Int) % 2 == 1) = false := by rw [beq_eq_false_iff_ne]; omega
    have e2 : ((n : Int).tmod 2 == 1) = false := by rw [beq_eq_false_iff_ne, Int.tmod_eq_emod_of_nonneg (by omega)]; omega
    replace h := Lib.hid h
    go_wp2
    go_ret
    exact ⟨rfl, hb2⟩
  · have hx := wrap_neg (Mx.sg n * Mx.det n A)
    rw [sg_odd h] at hx
    have e1 : ((n : Int) % 2 == 1) = true := by rw [beq_iff_eq]; omega
    have e2 : ((n : Int).tmod 2 == 1) = true := by rw [beq_iff_eq, Int.tmod_eq_emod_of_nonneg (by omega)]; omega
    generalize wrap64 (Mx.sg n * Mx.det n A) = x1 at *
    replace h := Lib.hid h
    replace hx := Lib.hid hx
    go_wp2
    go_ret
    exact ⟨by rw [← hx.out]; rfl, hb2⟩

end Go.Proofs.YtcenhemlgapkeaaDoor
