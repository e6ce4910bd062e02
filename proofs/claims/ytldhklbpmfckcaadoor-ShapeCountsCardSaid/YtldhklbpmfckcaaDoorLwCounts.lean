/- The walk of the law ShapeCounts: it returns true at every slice of ints. Condition: the library's one variable is laid. -/
import Derived.Test.YtldhklbpmfckcaaDoorRefShape
import Derived.Test.YtldhklbpmfckcaaDoorWkCount
import Derived.Test.YtldhklbpmfckcaaDoorTold
namespace Go.Proofs.YtldhklbpmfckcaaDoor
open Go.RowKit

set_option maxHeartbeats 1000000 in
theorem shapeCounts_walk (p0 : Option Addr) (x0 : List Int) (c0 : Nat) (w : World) (r0 : Row w p0 x0) (l0 : x0.length ≤ maxLen) (_ : All64 x0) (hg : Laid w) :
    Calls Tryd.prog 5 #[.slice p0 x0.length c0] w fun e w' => e = .returned (.bool true) ∧ Below w.heap.size w w' := by
  cases hc : M.count x0 with
  | error n =>
    have hn : n ≠ 0 := by have := M.count_err hc; omega
    have hf := fault_error hc
    have hev := errN_ne hn
    replace hev := Lib.hid hev
    have hn0 : (n == 0) = false := by rw [beq_eq_false_iff_ne]; exact hn
    have hnn : (n == n) = true := beq_self_eq_true n
    replace hn := Lib.hid hn
    replace hf := Lib.hid hf
    replace hc := Lib.hid hc
    go_enter Tryd.func5, Tryd.ntmps5
    go_wp2_with fail
    refine (fault_any p0 x0 _ c0 w r0 l0 rfl).mono ?_
    rintro e w' ⟨rfl, rfl⟩
    rw [hf.out]
    go_wp2_with fail
    refine (count_any p0 x0 _ c0 w r0 l0 rfl).mono ?_
    rintro e w' ⟨rfl, rfl⟩
    rw [hc.out]
    dsimp only [resI]
    go_wp2_with fail
    rw [← hev.out]
    refine (error_any n n w hg).mono ?_
    rintro e w1 ⟨rfl, hb⟩
    rw [hev.out, hnn]
    go_wp2
    go_ret
    exact ⟨rfl, hb⟩
  | ok q =>
    have hf := fault_ok hc
    have hqq : (q == q) = true := beq_self_eq_true q
    have hcq := hc
    replace hcq := Lib.hid hcq
    replace hf := Lib.hid hf
    replace hc := Lib.hid hc
    go_enter Tryd.func5, Tryd.ntmps5
    go_wp2_with fail
    refine (fault_any p0 x0 _ c0 w r0 l0 rfl).mono ?_
    rintro e w' ⟨rfl, rfl⟩
    rw [hf.out]
    go_wp2_with fail
    refine (cells_any p0 x0 _ c0 q w r0 hcq.out rfl).mono ?_
    rintro e w' ⟨rfl, rfl⟩
    go_wp2_with fail
    refine (count_any p0 x0 _ c0 w r0 l0 rfl).mono ?_
    rintro e w' ⟨rfl, rfl⟩
    rw [hc.out]
    dsimp only [resI]
    go_wp2_with fail
    refine (error_any 0 0 w hg).mono ?_
    rintro e w1 ⟨rfl, hb⟩
    go_wp2
    go_ret
    exact ⟨rfl, hb⟩

end Go.Proofs.YtldhklbpmfckcaaDoor
