/- The walk of the law CellTwos: it returns true whatever the function and the numbers. Condition: the library's one variable is laid. -/
import Derived.Test.YtldhklbpmfckcaaDoorRefTwo
import Derived.Test.YtldhklbpmfckcaaDoorTold
namespace Go.Proofs.YtldhklbpmfckcaaDoor
open Go.RowKit

set_option maxHeartbeats 1000000 in
theorem cellTwos_walk (f a b : Int) (w : World) (_ : I64 f) (ha : I64 a) (hb : I64 b) (hg : Laid w) :
    Calls Tryd.prog 9 #[.int .i64 f, .int .i64 a, .int .i64 b] w fun e w' => e = .returned (.bool true) ∧ Below w.heap.size w w' := by
  have hcell := cellTwo_any f a b w ha hb
  have href := refTwo_any f a b w ha hb
  clear ha hb
  cases hr : M.two f a b with
  | ok n =>
    rw [hr] at hcell href
    have hnn : (n == n) = true := beq_self_eq_true n
    replace hcell := Lib.hid hcell
    replace href := Lib.hid href
    clear hr
    go_enter Tryd.func9, Tryd.ntmps9
    go_wp2_with fail
    refine href.out.mono ?_
    rintro e w' ⟨rfl, rfl⟩
    dsimp only [refI]
    go_wp2_with fail
    refine hcell.out.mono ?_
    rintro e w' ⟨rfl, nd, rfl⟩
    dsimp only [resI]
    go_wp2_with fail
    refine (error_any 0 0 (w.drewN nd) hg).mono ?_
    rintro e w1 ⟨rfl, hb⟩
    go_wp2
    go_ret
    exact ⟨rfl, ⟨hb.os, hb.tape, hb.output, hb.size, hb.block⟩⟩
  | error n =>
    have hn := two_err hr
    rw [hr] at hcell href
    have hev := errN_ne hn
    replace hev := Lib.hid hev
    replace hn := Lib.hid hn
    have hnn : (n == n) = true := beq_self_eq_true n
    replace hcell := Lib.hid hcell
    replace href := Lib.hid href
    clear hr
    go_enter Tryd.func9, Tryd.ntmps9
    go_wp2_with fail
    refine href.out.mono ?_
    rintro e w' ⟨rfl, rfl⟩
    dsimp only [refI]
    go_wp2_with fail
    refine hcell.out.mono ?_
    rintro e w' ⟨rfl, nd, rfl⟩
    dsimp only [resI]
    go_wp2_with fail
    rw [← hev.out]
    refine (error_any n n (w.drewN nd) hg).mono ?_
    rintro e w1 ⟨rfl, hb⟩
    rw [hev.out, hnn]
    go_wp2
    go_ret
    exact ⟨rfl, ⟨hb.os, hb.tape, hb.output, hb.size, hb.block⟩⟩

end Go.Proofs.YtldhklbpmfckcaaDoor
