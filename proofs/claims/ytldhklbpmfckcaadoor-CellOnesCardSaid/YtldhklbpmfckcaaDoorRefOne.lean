/- The document's answers Neutral and One: they are M.neutral and M.one; and the walks of the laws CellNeutrals and CellOnes. Condition: the library's one variable is laid. -/
import Derived.Test.YtldhklbpmfckcaaDoorWkOne
import Derived.Test.YtldhklbpmfckcaaDoorTold
namespace Go.Proofs.YtldhklbpmfckcaaDoor
open Go.RowKit

/-- A number and the number of an error. -/
def refI : Except Int Int → Value
  | .ok n => .tuple #[.int .i64 n, .int .i64 0]
  | .error e => .tuple #[.int .i64 0, .int .i64 e]

set_option maxHeartbeats 1000000 in
theorem refNeutral_any (f : Int) (w : World) : Calls Tryd.prog 11 #[.int .i64 f] w fun e w' => e = .returned (refI (M.neutral f)) ∧ w = w' := by
  by_cases hr : 1 ≤ f ∧ f ≤ 16
  · have hs : f = 1 ∨ f = 2 ∨ f = 3 ∨ f = 4 ∨ f = 5 ∨ f = 6 ∨ f = 7 ∨ f = 8 ∨ f = 9 ∨ f = 10 ∨ f = 11 ∨ f = 12 ∨ f = 13 ∨ f = 14 ∨ f = 15 ∨ f = 16 := by omega
    clear hr
    rcases hs with rfl | rfl | rfl | rfl | rfl | rfl | rfl | rfl | rfl | rfl | rfl | rfl | rfl | rfl | rfl | rfl
    all_goals
      go_enter Tryd.func11, Tryd.ntmps11
      go_wp2
      go_ret2
      exact ⟨rfl, rfl⟩
  have hf := Lib.hid (show M.neutral f = .error 1 by unfold M.neutral; rw [if_neg (by omega), if_neg (by omega), if_neg (by omega), if_neg (by omega), if_neg (by omega), if_neg (by omega)])
  cases e1 : decide (f < 1) with
  | true =>
    clear hr
    go_enter Tryd.func11, Tryd.ntmps11
    go_wp2
    go_ret2
    exact ⟨by rw [hf.out]; rfl, rfl⟩
  | false =>
    have e2 : decide (16 < f) = true := by have := of_decide_eq_false e1; exact decide_eq_true (by omega)
    clear hr
    go_enter Tryd.func11, Tryd.ntmps11
    go_wp2
    go_ret2
    exact ⟨by rw [hf.out]; rfl, rfl⟩

theorem neutral_err {f e : Int} (h : M.neutral f = .error e) : e ≠ 0 := by
  have : e = 6 ∨ e = 1 := by
    unfold M.neutral at h
    repeat' split at h
    all_goals cases h
    · exact .inl rfl
    · exact .inr rfl
  omega

set_option maxHeartbeats 1000000 in
theorem cellNeutrals_walk (f : Int) (w : World) (_ : I64 f) (hg : Laid w) :
    Calls Tryd.prog 3 #[.int .i64 f] w fun e w' => e = .returned (.bool true) ∧ Below w.heap.size w w' := by
  have hfact : M.neutral 14 = .ok (-1) := rfl
  cases hr : M.neutral f with
  | ok n =>
    replace hr := Lib.hid hr
    replace hfact := Lib.hid hfact
    have hnn : (n == n) = true := beq_self_eq_true n
    go_enter Tryd.func3, Tryd.ntmps3
    go_wp2_with fail
    refine (refNeutral_any f w).mono ?_
    rintro e w' ⟨rfl, rfl⟩
    rw [hr.out]
    dsimp only [refI]
    go_wp2_with fail
    refine (neutral_any f w).mono ?_
    rintro e w' ⟨rfl, rfl⟩
    rw [hr.out]
    dsimp only [resI]
    go_wp2_with fail
    refine (error_any 0 0 w hg).mono ?_
    rintro e w1 ⟨rfl, hb⟩
    go_wp2_with fail
    refine (neutral_any 14 w1).mono ?_
    rintro e w' ⟨rfl, rfl⟩
    rw [hfact.out]
    dsimp only [resI]
    go_wp2
    go_ret
    exact ⟨rfl, hb⟩
  | error n =>
    have hn := neutral_err hr
    have hev := errN_ne hn
    replace hev := Lib.hid hev
    replace hn := Lib.hid hn
    replace hr := Lib.hid hr
    replace hfact := Lib.hid hfact
    have hnn : (n == n) = true := beq_self_eq_true n
    go_enter Tryd.func3, Tryd.ntmps3
    go_wp2_with fail
    refine (refNeutral_any f w).mono ?_
    rintro e w' ⟨rfl, rfl⟩
    rw [hr.out]
    dsimp only [refI]
    go_wp2_with fail
    refine (neutral_any f w).mono ?_
    rintro e w' ⟨rfl, rfl⟩
    rw [hr.out]
    dsimp only [resI]
    go_wp2_with fail
    rw [← hev.out]
    refine (error_any n n w hg).mono ?_
    rintro e w1 ⟨rfl, hb⟩
    rw [hev.out, hnn]
    go_wp2_with fail
    refine (neutral_any 14 w1).mono ?_
    rintro e w' ⟨rfl, rfl⟩
    rw [hfact.out]
    dsimp only [resI]
    go_wp2
    go_ret
    exact ⟨rfl, hb⟩

end Go.Proofs.YtldhklbpmfckcaaDoor
