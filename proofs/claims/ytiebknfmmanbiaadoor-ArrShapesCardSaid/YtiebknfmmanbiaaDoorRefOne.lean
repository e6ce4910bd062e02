/- The document's answers Neutral and One: they are M.neutral and M.one; and the walks of the laws CellNeutrals and CellOnes. Condition: the library's one variable is laid. -/
import Derived.Test.YtiebknfmmanbiaaDoorWkOne
import Derived.Test.YtiebknfmmanbiaaDoorRefI
import Derived.Test.YtiebknfmmanbiaaDoorTold
namespace Go.Proofs.YtiebknfmmanbiaaDoor
open Go.RowKit

set_option maxHeartbeats 1000000 in
theorem refNeutral_any (f : Int) (w : World) : Calls Tryd.prog 113 #[.int .i64 f] w fun e w' => e = .returned (refI (M.neutral f)) ∧ w = w' := by
  by_cases hr : 1 ≤ f ∧ f ≤ 16
  · have hs : f = 1 ∨ f = 2 ∨ f = 3 ∨ f = 4 ∨ f = 5 ∨ f = 6 ∨ f = 7 ∨ f = 8 ∨ f = 9 ∨ f = 10 ∨ f = 11 ∨ f = 12 ∨ f = 13 ∨ f = 14 ∨ f = 15 ∨ f = 16 := by omega
    clear hr
    rcases hs with rfl | rfl | rfl | rfl | rfl | rfl | rfl | rfl | rfl | rfl | rfl | rfl | rfl | rfl | rfl | rfl
    all_goals
      go_enter Tryd.func113, Tryd.ntmps113
      go_wp2
      go_ret2
      exact ⟨rfl, rfl⟩
  have hf := Lib.hid (show M.neutral f = .error 1 by unfold M.neutral; rw [if_neg (by omega), if_neg (by omega), if_neg (by omega), if_neg (by omega), if_neg (by omega), if_neg (by omega)])
  cases e1 : decide (f < 1) with
  | true =>
    clear hr
    go_enter Tryd.func113, Tryd.ntmps113
    go_wp2
    go_ret2
    exact ⟨by rw [hf.out]; rfl, rfl⟩
  | false =>
    have e2 : decide (16 < f) = true := by have := of_decide_eq_false e1; exact decide_eq_true (by omega)
    clear hr
    go_enter Tryd.func113, Tryd.ntmps113
    go_wp2
    go_ret2
    exact ⟨by rw [hf.out]; rfl, rfl⟩

theorem neutral_err {f e : Int} (h : M.neutral f = .error e) : e ≠ 0 := by
  have : e = 6 ∨ e = 1 := by
    unfold M.neutral at h
    repeat' split at h
    all_goals cases h
    · exact .inl rfl
    · exact .inr rfl
  omega

end Go.Proofs.YtiebknfmmanbiaaDoor
