/- The statements' helper semiring. No condition. -/
import Derived.Test.YtohnimfjekemjaaSemiRing
namespace Go.Proofs.Ytohnimfjekemjaa
open Go.RowKit

set_option maxHeartbeats 1000000 in
theorem semiring_any (f g : Int) (w : World) : Calls Try.prog 30 #[.int .i64 f, .int .i64 g] w fun e w' => e = .returned (.bool (M.semi f g)) ∧ w = w' := by
  have hr0 : M.semi f g = if f = 1 then g == 3 else if f = 6 then g == 7 else if f = 7 then g == 6 else if f = 15 then g == 14 else f == 14 && g == 15 := rfl
  by_cases h1 : f = 1
  · subst h1
    have hr := Lib.hid (hr0.trans (if_pos rfl))
    clear hr0
    go_enter Try.func30, Try.ntmps30
    go_wp2
    go_ret
    exact ⟨by rw [hr.out]; rfl, rfl⟩
  rw [if_neg h1] at hr0
  have e1 : (f == 1) = false := beq_eq_false_iff_ne.2 h1
  by_cases h2 : f = 6
  · subst h2
    have hr := Lib.hid (hr0.trans (if_pos rfl))
    clear hr0
    go_enter Try.func30, Try.ntmps30
    go_wp2
    go_ret
    exact ⟨by rw [hr.out]; rfl, rfl⟩
  rw [if_neg h2] at hr0
  have e2 : (f == 6) = false := beq_eq_false_iff_ne.2 h2
  by_cases h3 : f = 7
  · subst h3
    have hr := Lib.hid (hr0.trans (if_pos rfl))
    clear hr0
    go_enter Try.func30, Try.ntmps30
    go_wp2
    go_ret
    exact ⟨by rw [hr.out]; rfl, rfl⟩
  rw [if_neg h3] at hr0
  have e3 : (f == 7) = false := beq_eq_false_iff_ne.2 h3
  by_cases h4 : f = 15
  · subst h4
    have hr := Lib.hid (hr0.trans (if_pos rfl))
    clear hr0
    go_enter Try.func30, Try.ntmps30
    go_wp2
    go_ret
    exact ⟨by rw [hr.out]; rfl, rfl⟩
  rw [if_neg h4] at hr0
  have e4 : (f == 15) = false := beq_eq_false_iff_ne.2 h4
  cases h5 : (f == 14) with
  | true =>
    have hr := Lib.hid (show M.semi f g = (g == 15) by rw [hr0, h5]; rfl)
    clear hr0 h1 h2 h3 h4
    go_enter Try.func30, Try.ntmps30
    go_wp2
    go_ret
    exact ⟨by rw [hr.out]; rfl, rfl⟩
  | false =>
    have hr := Lib.hid (show M.semi f g = false by rw [hr0, h5]; rfl)
    clear hr0 h1 h2 h3 h4
    go_enter Try.func30, Try.ntmps30
    go_wp2
    go_ret
    exact ⟨by rw [hr.out]; rfl, rfl⟩


end Go.Proofs.Ytohnimfjekemjaa
