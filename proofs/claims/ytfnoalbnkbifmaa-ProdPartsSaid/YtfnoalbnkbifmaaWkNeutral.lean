/- The call cell.Neutral: what it returns is M.neutral; nothing in memory turns. Condition: none. -/
import Derived.Test.YtfnoalbnkbifmaaBdA
namespace Go.Proofs.Ytfnoalbnkbifmaa
open Go.RowKit
namespace M

def neutral (f : Int) : Except Int Int :=
  if f = 1 ∨ f = 2 ∨ f = 5 ∨ f = 15 then .ok 0
  else if f = 3 ∨ f = 4 ∨ f = 16 then .ok 1
  else if f = 6 then .ok (-9223372036854775808)
  else if f = 7 then .ok 9223372036854775807
  else if f = 14 then .ok (-1)
  else if 8 ≤ f ∧ f ≤ 13 then .error 6
  else .error 1
end M

set_option maxHeartbeats 1000000 in
theorem neutral_any (f : Int) (w : World) : Calls Try.prog 19 #[.int .i64 f] w fun e w' => e = .returned (resI (M.neutral f)) ∧ w = w' := by
  by_cases hr : 1 ≤ f ∧ f ≤ 16
  · have hs : f = 1 ∨ f = 2 ∨ f = 3 ∨ f = 4 ∨ f = 5 ∨ f = 6 ∨ f = 7 ∨ f = 8 ∨ f = 9 ∨ f = 10 ∨ f = 11 ∨ f = 12 ∨ f = 13 ∨ f = 14 ∨ f = 15 ∨ f = 16 := by omega
    clear hr
    rcases hs with rfl | rfl | rfl | rfl | rfl | rfl | rfl | rfl | rfl | rfl | rfl | rfl | rfl | rfl | rfl | rfl
    all_goals
      go_enter Try.func19, Try.ntmps19
      go_wp2
      go_ret2
      exact ⟨rfl, rfl⟩
  have hf := Lib.hid (show M.neutral f = .error 1 by unfold M.neutral; rw [if_neg (by omega), if_neg (by omega), if_neg (by omega), if_neg (by omega), if_neg (by omega), if_neg (by omega)])
  have e1 : (f == 1) = false := by rw [beq_eq_false_iff_ne]; omega
  have e2 : (f == 2) = false := by rw [beq_eq_false_iff_ne]; omega
  have e3 : (f == 3) = false := by rw [beq_eq_false_iff_ne]; omega
  have e4 : (f == 4) = false := by rw [beq_eq_false_iff_ne]; omega
  have e5 : (f == 5) = false := by rw [beq_eq_false_iff_ne]; omega
  have e6 : (f == 6) = false := by rw [beq_eq_false_iff_ne]; omega
  have e7 : (f == 7) = false := by rw [beq_eq_false_iff_ne]; omega
  have e8 : (f == 8) = false := by rw [beq_eq_false_iff_ne]; omega
  have e9 : (f == 9) = false := by rw [beq_eq_false_iff_ne]; omega
  have e10 : (f == 10) = false := by rw [beq_eq_false_iff_ne]; omega
  have e11 : (f == 11) = false := by rw [beq_eq_false_iff_ne]; omega
  have e12 : (f == 12) = false := by rw [beq_eq_false_iff_ne]; omega
  have e13 : (f == 13) = false := by rw [beq_eq_false_iff_ne]; omega
  have e14 : (f == 14) = false := by rw [beq_eq_false_iff_ne]; omega
  have e15 : (f == 15) = false := by rw [beq_eq_false_iff_ne]; omega
  have e16 : (f == 16) = false := by rw [beq_eq_false_iff_ne]; omega
  clear hr
  go_enter Try.func19, Try.ntmps19
  go_wp2
  go_ret2
  exact ⟨by rw [hf.out]; rfl, rfl⟩

end Go.Proofs.Ytfnoalbnkbifmaa
