/- The document's truth, chosen and Two: what they tell is M.two. Condition: the numbers are of 64 bits. -/
import Derived.Test.YtcenhemlgapkeaaDoorRefTwos
namespace Go.Proofs.YtcenhemlgapkeaaDoor
open Go.RowKit

set_option maxHeartbeats 400000 in
theorem truth_any (p : Bool) (w : World) : Calls Tryd.prog 84 #[.bool p] w fun e w' => e = .returned (.int .i64 (M.bit p)) ∧ w = w' := by
  cases p
  all_goals
    go_enter Tryd.func84, Tryd.ntmps84
    go_wp2
    go_ret
    exact ⟨rfl, rfl⟩

theorem two_val {f a b n : Int} (h : M.two f a b = .ok n) : (match M.two f a b with | .ok n => n | .error _ => 0) = n := by rw [h]

set_option maxHeartbeats 4000000 in
theorem chosen_any (f a b n : Int) (w : World) (ha : I64 a) (hb : I64 b) (hf : 6 ≤ f ∧ f ≤ 15) (hn : M.two f a b = .ok n) :
    Calls Tryd.prog 96 #[.int .i64 f, .int .i64 a, .int .i64 b] w fun e w' => e = .returned (.int .i64 n) ∧ w = w' := by
  have hs : f = 6 ∨ f = 7 ∨ f = 8 ∨ f = 9 ∨ f = 10 ∨ f = 11 ∨ f = 12 ∨ f = 13 ∨ f = 14 ∨ f = 15 := by omega
  clear hf
  rcases hs with rfl | rfl | rfl | rfl | rfl | rfl | rfl | rfl | rfl | rfl
  · have hv : n = if a < b then b else a := (Except.ok.inj hn).symm
    clear hn
    by_cases h : a < b
    · rw [if_pos h] at hv
      subst hv
      go_enter Tryd.func96, Tryd.ntmps96
      go_wp2
      go_ret
      exact ⟨rfl, rfl⟩
    · rw [if_neg h] at hv
      subst hv
      go_enter Tryd.func96, Tryd.ntmps96
      go_wp2
      go_ret
      exact ⟨rfl, rfl⟩
  · have hv : n = if b < a then b else a := (Except.ok.inj hn).symm
    clear hn
    by_cases h : a < b
    · rw [if_neg (by omega)] at hv
      subst hv
      go_enter Tryd.func96, Tryd.ntmps96
      go_wp2
      go_ret
      exact ⟨rfl, rfl⟩
    · have hv2 : n = b := by rw [hv]; split <;> omega
      clear hv
      subst hv2
      go_enter Tryd.func96, Tryd.ntmps96
      go_wp2
      go_ret
      exact ⟨rfl, rfl⟩
  · have hv : n = M.bit (a == b) := (Except.ok.inj hn).symm
    clear hn
    subst hv
    go_enter Tryd.func96, Tryd.ntmps96
    go_wp2_with (go_at_call 84; refine (truth_any _ _).mono ?_; rintro e w' ⟨rfl, rfl⟩)
    go_ret
    exact ⟨rfl, rfl⟩
  · have hv : n = M.bit (!(a == b)) := (Except.ok.inj hn).symm
    clear hn
    subst hv
    go_enter Tryd.func96, Tryd.ntmps96
    go_wp2_with (go_at_call 84; refine (truth_any _ _).mono ?_; rintro e w' ⟨rfl, rfl⟩)
    go_ret
    exact ⟨rfl, rfl⟩
  · have hv : n = M.bit (decide (a < b)) := (Except.ok.inj hn).symm
    clear hn
    subst hv
    go_enter Tryd.func96, Tryd.ntmps96
    go_wp2_with (go_at_call 84; refine (truth_any _ _).mono ?_; rintro e w' ⟨rfl, rfl⟩)
    go_ret
    exact ⟨rfl, rfl⟩
  · have hv : n = M.bit (decide (a ≤ b)) := (Except.ok.inj hn).symm
    clear hn
    have key : decide (a ≤ b) = (decide (a < b) || (a == b)) := by
      rw [Bool.eq_iff_iff]; simp only [Bool.or_eq_true, decide_eq_true_eq, beq_iff_eq]; omega
    cases d1 : decide (a < b) <;> cases d2 : (a == b)
    all_goals
      rw [key, d1, d2] at hv
      subst hv
      clear key
      go_enter Tryd.func96, Tryd.ntmps96
      go_wp2_with (go_at_call 84; refine (truth_any _ _).mono ?_; rintro e w' ⟨rfl, rfl⟩)
      go_ret
      exact ⟨rfl, rfl⟩
  · have hv : n = M.bit (decide (b ≤ a)) := (Except.ok.inj hn).symm
    clear hn
    have key : decide (b ≤ a) = !decide (a < b) := by
      rw [Bool.eq_iff_iff]; simp only [Bool.not_eq_true', decide_eq_false_iff_not, decide_eq_true_eq]; omega
    cases d1 : decide (a < b)
    all_goals
      rw [key, d1] at hv
      subst hv
      clear key
      go_enter Tryd.func96, Tryd.ntmps96
      go_wp2_with (go_at_call 84; refine (truth_any _ _).mono ?_; rintro e w' ⟨rfl, rfl⟩)
      go_ret
      exact ⟨rfl, rfl⟩
  · have hv : n = M.bit (decide (b < a)) := (Except.ok.inj hn).symm
    clear hn
    have key : decide (b < a) = (!decide (a < b) && !(a == b)) := by
      rw [Bool.eq_iff_iff]; simp only [Bool.and_eq_true, Bool.not_eq_true', decide_eq_false_iff_not, decide_eq_true_eq, beq_eq_false_iff_ne]; omega
    cases d1 : decide (a < b) <;> cases d2 : (a == b)
    all_goals
      rw [key, d1, d2] at hv
      subst hv
      clear key
      go_enter Tryd.func96, Tryd.ntmps96
      go_wp2_with (go_at_call 84; refine (truth_any _ _).mono ?_; rintro e w' ⟨rfl, rfl⟩)
      go_ret
      exact ⟨rfl, rfl⟩
  · have hv : n = bits .and .i64 a b := (Except.ok.inj hn).symm
    clear hn
    subst hv
    go_enter Tryd.func96, Tryd.ntmps96
    go_wp2_with (go_at_call 104; refine (bitwise_any true _ _ _ ha hb).mono ?_; rintro e w' ⟨rfl, rfl⟩)
    go_ret
    exact ⟨rfl, rfl⟩
  · have hv : n = bits .or .i64 a b := (Except.ok.inj hn).symm
    clear hn
    subst hv
    go_enter Tryd.func96, Tryd.ntmps96
    go_wp2_with (go_at_call 104; refine (bitwise_any false _ _ _ ha hb).mono ?_; rintro e w' ⟨rfl, rfl⟩)
    go_ret
    exact ⟨rfl, rfl⟩

theorem two_out {f a b : Int} (h : ¬ (1 ≤ f ∧ f ≤ 16)) : M.two f a b = .error 1 := by
  unfold M.two
  rw [if_neg (by omega), if_neg (by omega), if_neg (by omega), if_neg (by omega), if_neg (by omega), if_neg (by omega), if_neg (by omega), if_neg (by omega), if_neg (by omega), if_neg (by omega), if_neg (by omega), if_neg (by omega), if_neg (by omega), if_neg (by omega), if_neg (by omega), if_neg (by omega)]

theorem two_chosen {f a b : Int} (h : 6 ≤ f ∧ f ≤ 15) : ∃ n, M.two f a b = .ok n := by
  have hs : f = 6 ∨ f = 7 ∨ f = 8 ∨ f = 9 ∨ f = 10 ∨ f = 11 ∨ f = 12 ∨ f = 13 ∨ f = 14 ∨ f = 15 := by omega
  rcases hs with rfl | rfl | rfl | rfl | rfl | rfl | rfl | rfl | rfl | rfl <;> exact ⟨_, rfl⟩

/-- Its errors are errors. -/
def Errs (r : Except Int Int) : Prop := ∀ e, r = .error e → e ≠ 0
theorem errs_ok (n : Int) : Errs (.ok n) := fun _ h => by cases h
theorem errs_error {n : Int} (h : n ≠ 0) : Errs (.error n) := fun _ e => by cases e; exact h
theorem errs_ite {c : Prop} [Decidable c] {x y : Except Int Int} (hx : Errs x) (hy : Errs y) : Errs (if c then x else y) := by split <;> assumption

theorem two_err {f a b e : Int} (h : M.two f a b = .error e) : e ≠ 0 := by
  have hf : Errs (M.two f a b) := by
    unfold M.two
    exact errs_ite (errs_ok _) (errs_ite (errs_ok _) (errs_ite (errs_ok _) (errs_ite (errs_ite (errs_error (by decide)) (errs_ok _))
      (errs_ite (errs_ite (errs_ok _) (errs_ok _)) (errs_ite (errs_ok _) (errs_ite (errs_ok _) (errs_ite (errs_ok _) (errs_ite (errs_ok _) (errs_ite (errs_ok _)
      (errs_ite (errs_ok _) (errs_ite (errs_ok _) (errs_ite (errs_ok _) (errs_ite (errs_ok _) (errs_ite (errs_ok _)
      (errs_ite (errs_ite (errs_error (by decide)) (errs_ok _)) (errs_error (by decide)))))))))))))))))
  exact hf e h

set_option maxHeartbeats 4000000 in
theorem refTwo_any (f a b : Int) (w : World) (ha : I64 a) (hb : I64 b) :
    Calls Tryd.prog 83 #[.int .i64 f, .int .i64 a, .int .i64 b] w fun e w' => e = .returned (refI (M.two f a b)) ∧ w = w' := by
  by_cases hr : 1 ≤ f ∧ f ≤ 16
  case neg =>
    have hf := Lib.hid (two_out (a := a) (b := b) hr)
    cases e1 : decide (f < 1) with
    | true =>
      clear hr
      go_enter Tryd.func83, Tryd.ntmps83
      go_wp2
      go_ret2
      exact ⟨by rw [hf.out]; rfl, rfl⟩
    | false =>
      have e2 : decide (16 < f) = true := by have := of_decide_eq_false e1; exact decide_eq_true (by omega)
      clear hr
      go_enter Tryd.func83, Tryd.ntmps83
      go_wp2
      go_ret2
      exact ⟨by rw [hf.out]; rfl, rfl⟩
  by_cases hc : 6 ≤ f ∧ f ≤ 15
  · obtain ⟨n, hn⟩ := two_chosen (a := a) (b := b) hc
    have hcall := Lib.hid (fun w => chosen_any f a b n w ha hb hc hn)
    have hn' := Lib.hid hn
    have d1 : decide (f < 1) = false := decide_eq_false (by omega)
    have d2 : decide (16 < f) = false := decide_eq_false (by omega)
    have e1 : (f == 1) = false := by rw [beq_eq_false_iff_ne]; omega
    have e2 : (f == 2) = false := by rw [beq_eq_false_iff_ne]; omega
    have e3 : (f == 3) = false := by rw [beq_eq_false_iff_ne]; omega
    have e4 : (f == 4) = false := by rw [beq_eq_false_iff_ne]; omega
    have e5 : (f == 5) = false := by rw [beq_eq_false_iff_ne]; omega
    have e16 : (f == 16) = false := by rw [beq_eq_false_iff_ne]; omega
    clear hn hc hr
    go_enter Tryd.func83, Tryd.ntmps83
    go_wp2_with (go_at_call 96; refine (hcall.out _).mono ?_; rintro e w' ⟨rfl, rfl⟩)
    go_ret2
    exact ⟨by rw [hn'.out]; rfl, rfl⟩
  have hs : f = 1 ∨ f = 2 ∨ f = 3 ∨ f = 4 ∨ f = 5 ∨ f = 16 := by omega
  clear hr hc
  rcases hs with rfl | rfl | rfl | rfl | rfl | rfl
  · go_enter Tryd.func83, Tryd.ntmps83
    go_wp2
    go_ret2
    exact ⟨rfl, rfl⟩
  · go_enter Tryd.func83, Tryd.ntmps83
    go_wp2
    go_ret2
    exact ⟨rfl, rfl⟩
  · go_enter Tryd.func83, Tryd.ntmps83
    go_wp2
    go_ret2
    exact ⟨rfl, rfl⟩
  · by_cases h0 : b = 0
    · subst h0
      go_enter Tryd.func83, Tryd.ntmps83
      go_wp2
      go_ret2
      exact ⟨rfl, rfl⟩
    · have e0 : (b == 0) = false := by simpa using h0
      have hf := Lib.hid (show M.two 4 a b = .ok (M.floor a b) by simp [M.two, h0])
      go_enter Tryd.func83, Tryd.ntmps83
      go_wp2_with (go_at_call 94; refine (quotient_any _ _ _ ha hb h0).mono ?_; rintro e w' ⟨rfl, rfl⟩)
      go_ret2
      exact ⟨by rw [hf.out]; rfl, rfl⟩
  · by_cases h0 : a = 0
    · subst h0
      go_enter Tryd.func83, Tryd.ntmps83
      go_wp2
      go_ret2
      exact ⟨rfl, rfl⟩
    · have e0 : (a == 0) = false := by simpa using h0
      have hf := Lib.hid (show M.two 5 a b = .ok (wrap64 (b - wrap64 (a * M.floor b a))) by simp [M.two, h0])
      go_enter Tryd.func83, Tryd.ntmps83
      go_wp2_with (go_at_call 94; refine (quotient_any _ _ _ hb ha h0).mono ?_; rintro e w' ⟨rfl, rfl⟩)
      go_ret2
      exact ⟨by rw [hf.out]; rfl, rfl⟩
  · by_cases h0 : b < 0
    · have hf := Lib.hid (show M.two 16 a b = .error 6 by simp [M.two, h0])
      go_enter Tryd.func83, Tryd.ntmps83
      go_wp2
      go_ret2
      exact ⟨by rw [hf.out]; rfl, rfl⟩
    · have hf := Lib.hid (show M.two 16 a b = .ok (M.pow a b) by simp [M.two, h0])
      have hcall := fun w => raised_any a ha b.toNat b w (by omega) hb
      replace hcall := Lib.hid hcall
      go_enter Tryd.func83, Tryd.ntmps83
      go_wp2_with (go_at_call 95; refine (hcall.out _).mono ?_; rintro e w' ⟨rfl, rfl⟩)
      go_ret2
      exact ⟨by rw [hf.out]; rfl, rfl⟩

end Go.Proofs.YtcenhemlgapkeaaDoor
