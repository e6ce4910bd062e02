/- The calls of package cell that reckon with two numbers, and the helper two of the statements: what they return is M.two; nothing in memory turns. Condition: the numbers are of 64 bits. -/
import Derived.Test.YtfnoalbnkbifmaaBdA
import Derived.Deep.QuietTactic
import Derived.BigQuiet
namespace Go.Proofs.Ytfnoalbnkbifmaa
open Go.RowKit

theorem tdiv_in {a b : Int} (ha : I64 a) (h0 : b ≠ 0) (h1 : b ≠ -1) (hr : a.tmod b ≠ 0) : I64 (a.tdiv b) ∧ I64 (a.tdiv b - 1) := by
  have h2 : a.tdiv b * b + a.tmod b = a := Int.tdiv_mul_add_tmod a b
  have h3 : (a.tdiv b).natAbs = a.natAbs / b.natAbs := Int.natAbs_tdiv a b
  have hb : b ≠ 1 := by rintro rfl; exact hr (Int.tmod_one a)
  have h4 : a.natAbs / b.natAbs ≤ a.natAbs / 2 := Nat.div_le_div_left (by omega) (by omega)
  unfold I64 at *
  omega

theorem tdiv_in' {a b : Int} (ha : I64 a) (h1 : b ≠ -1) : I64 (a.tdiv b) := by
  have h3 : (a.tdiv b).natAbs = a.natAbs / b.natAbs := Int.natAbs_tdiv a b
  by_cases hb : b = 1
  · subst hb; simpa using ha
  · by_cases h0 : b = 0
    · subst h0; simp [I64]
    · have h4 : a.natAbs / b.natAbs ≤ a.natAbs / 2 := Nat.div_le_div_left (by omega) (by omega)
      unfold I64 at *
      omega

set_option maxHeartbeats 400000 in
theorem bit_any (p : Bool) (w : World) : Calls Try.prog 48 #[.bool p] w fun e w' => e = .returned (.int .i64 (M.bit p)) ∧ w = w' := by
  cases p
  all_goals
    go_enter Try.func48, Try.ntmps48
    go_wp2
    go_ret
    exact ⟨rfl, rfl⟩

set_option maxHeartbeats 400000 in
theorem floor_any (a b : Int) (w : World) (ha : I64 a) (h0 : b ≠ 0) : Calls Try.prog 38 #[.int .i64 a, .int .i64 b] w fun e w' => e = .returned (.int .i64 (M.floor a b)) ∧ ∃ n, w' = w.drewN n := by
  have e0 : (b == 0) = false := by simpa using h0
  by_cases h1 : b = -1
  · subst h1
    go_enter Try.func38, Try.ntmps38
    go_wp2
    go_ret
    exact ⟨rfl, 0, rfl⟩
  · have e1 : (b == -1) = false := by simpa using h1
    have hf := Lib.hid (show M.floor a b = if a.tmod b ≠ 0 ∧ (decide (a.tmod b < 0) != decide (b < 0)) = true then a.tdiv b - 1 else a.tdiv b from if_neg h1)
    have hi := Lib.hid (tdiv_in' ha h1)
    have hj := Lib.hid (tdiv_in ha h0 h1)
    clear ha
    go_enter Try.func38, Try.ntmps38
    go_wp2
    go_quiet (fail)
    go_wp2
    · rename_i hr
      go_ret
      refine ⟨?_, _, rfl⟩
      rw [hf.out, if_neg (by simp [hr])]
      exact ret_int (wrap_id hi.out)
    · rename_i hr h
      go_ret
      refine ⟨?_, _, rfl⟩
      rw [hf.out, if_pos ⟨hr, by simpa using h.2⟩]
      have := hj.out hr
      exact ret_int (by rw [wrap_id this.1, wrap_id this.2])
    · rename_i hr h
      go_ret
      refine ⟨?_, _, rfl⟩
      rw [hf.out, if_neg (by simpa [hr] using h)]
      exact ret_int (wrap_id hi.out)

theorem pow_step (x p y : Int) (h : 0 < y) :
    wrap64 (p * x ^ y.toNat) = wrap64 ((if y % 2 = 1 then wrap64 (p * x) else p) * wrap64 (x * x) ^ (y / 2).toNat) := by
  have e : x ^ y.toNat = (if y % 2 = 1 then x else 1) * (x * x) ^ (y / 2).toNat := by
    have h2 : x * x = x ^ 2 := by rw [Int.pow_succ, Int.pow_succ, Int.pow_zero, Int.one_mul]
    rw [h2, ← Int.pow_mul]
    split
    · rename_i ho
      have : y.toNat = 2 * (y / 2).toNat + 1 := by omega
      rw [this, Int.pow_succ, Int.mul_comm]
    · rename_i ho
      rw [Int.one_mul]
      congr 1; omega
  rw [← wrap_mul_r, ← wrap_mul_r _ (wrap64 (x * x) ^ _), wrap_pow, wrap_mul_r, wrap_mul_r, e]
  split
  · rw [wrap_mul_l, Int.mul_assoc]
  · rw [Int.one_mul]

set_option maxHeartbeats 400000 in
theorem power_any (a b : Int) (w : World) (hb : I64 b) : Calls Try.prog 40 #[.int .i64 a, .int .i64 b] w fun e w' => e = .returned (.int .i64 (M.pow a b)) ∧ w = w' := by
  go_enter Try.func40, Try.ntmps40
  go_wp2
  go_loop [0, 1, 5] (fun x y p => ∃ x0 y0 p0 : Int, x = .int .i64 x0 ∧ y = .int .i64 y0 ∧ p = .int .i64 p0 ∧ I64 y0 ∧ I64 p0 ∧ M.pow a b = wrap64 (p0 * x0 ^ y0.toNat)) (fun _ y _ => (intOf y).toNat)
  case atStart => exact ⟨a, b, 1, rfl, rfl, rfl, hb, by unfold I64; omega, by rw [M.pow, Int.one_mul]⟩
  case round =>
    obtain ⟨x0, y0, p0, rfl, rfl, rfl, hy, hp, hm⟩ := hrel
    have hy' := hy
    obtain ⟨hy1, hy2⟩ := hy
    by_cases hlt : 0 < y0
    · have hs := Lib.hid (pow_step x0 p0 y0 hlt)
      have ho := Lib.hid (and_one (by omega) hy')
      replace hm := Lib.hid hm
      replace hp := Lib.hid hp
      clear hy'
      go_wp2
      · have h1 : y0 % 2 = 1 := by rw [← ho.out]; exact beq_iff_eq.1 ‹_›
        go_round
        case rel => exact ⟨_, _, _, rfl, rfl, rfl, by unfold I64; omega, I64_wrap _, by rw [hm.out, hs.out, if_pos h1]⟩
        case measure => simp [intOf]; omega
      · have h1 : ¬ y0 % 2 = 1 := by rw [← ho.out]; exact beq_eq_false_iff_ne.1 ‹_›
        go_round
        case rel => exact ⟨_, _, _, rfl, rfl, rfl, by unfold I64; omega, hp.out, by rw [hm.out, hs.out, if_neg h1]⟩
        case measure => simp [intOf]; omega
    · replace hm := Lib.hid hm
      replace hp := Lib.hid hp
      go_wp2
      go_ret
      have hz : y0.toNat = 0 := by omega
      exact ⟨ret_int (by rw [hm.out, hz, Int.pow_zero, Int.mul_one, wrap_id hp.out]), rfl⟩

/-- What two tells, as a value. -/
theorem resI_ok (n : Int) : resI (.ok n) = .tuple #[.int .i64 n, .nilIface] := rfl

set_option maxHeartbeats 2000000 in
theorem cellTwo_any (f a b : Int) (w : World) (ha : I64 a) (hb : I64 b) : Calls Try.prog 24 #[.int .i64 f, .int .i64 a, .int .i64 b] w fun e w' => e = .returned (resI (M.two f a b)) ∧ ∃ n, w' = w.drewN n := by
  by_cases h1 : f = 1
  · subst h1
    go_enter Try.func24, Try.ntmps24
    go_wp2
    go_ret2
    exact ⟨rfl, 0, rfl⟩
  by_cases h2 : f = 2
  · subst h2
    go_enter Try.func24, Try.ntmps24
    go_wp2
    go_ret2
    exact ⟨rfl, 0, rfl⟩
  by_cases h3 : f = 3
  · subst h3
    go_enter Try.func24, Try.ntmps24
    go_wp2
    go_ret2
    exact ⟨rfl, 0, rfl⟩
  by_cases h4 : f = 4
  · subst h4
    by_cases h0 : b = 0
    · subst h0
      go_enter Try.func24, Try.ntmps24
      go_wp2
      go_ret2
      exact ⟨rfl, 0, rfl⟩
    · have e0 : (b == 0) = false := by simpa using h0
      have hf := Lib.hid (show M.two 4 a b = .ok (M.floor a b) by simp [M.two, h0])
      go_enter Try.func24, Try.ntmps24
      go_wp2_with (go_at_call 38; refine (floor_any _ _ _ ha h0).mono ?_; rintro e w' ⟨rfl, nd, rfl⟩)
      go_ret2
      exact ⟨by rw [hf.out]; rfl, _, rfl⟩
  by_cases h5 : f = 5
  · subst h5
    by_cases h0 : a = 0
    · subst h0
      go_enter Try.func24, Try.ntmps24
      go_wp2
      go_ret2
      exact ⟨rfl, 0, rfl⟩
    · have e0 : (a == 0) = false := by simpa using h0
      have hf := Lib.hid (show M.two 5 a b = .ok (wrap64 (b - wrap64 (a * M.floor b a))) by simp [M.two, h0])
      go_enter Try.func24, Try.ntmps24
      go_wp2_with (go_at_call 38; refine (floor_any _ _ _ hb h0).mono ?_; rintro e w' ⟨rfl, nd, rfl⟩)
      go_ret2
      exact ⟨by rw [hf.out]; rfl, _, rfl⟩
  by_cases h6 : f = 6
  · subst h6
    by_cases hl : a < b
    · have hf := Lib.hid (show M.two 6 a b = .ok b by simp [M.two, hl])
      go_enter Try.func24, Try.ntmps24
      go_wp2
      go_ret2
      exact ⟨by rw [hf.out]; rfl, 0, rfl⟩
    · have hf := Lib.hid (show M.two 6 a b = .ok a by simp [M.two, hl])
      go_enter Try.func24, Try.ntmps24
      go_wp2
      go_ret2
      exact ⟨by rw [hf.out]; rfl, 0, rfl⟩
  by_cases h7 : f = 7
  · subst h7
    by_cases hl : b < a
    · have hf := Lib.hid (show M.two 7 a b = .ok b by simp [M.two, hl])
      go_enter Try.func24, Try.ntmps24
      go_wp2
      go_ret2
      exact ⟨by rw [hf.out]; rfl, 0, rfl⟩
    · have hf := Lib.hid (show M.two 7 a b = .ok a by simp [M.two, hl])
      go_enter Try.func24, Try.ntmps24
      go_wp2
      go_ret2
      exact ⟨by rw [hf.out]; rfl, 0, rfl⟩
  by_cases h8 : 8 ≤ f ∧ f ≤ 13
  · have hf : f = 8 ∨ f = 9 ∨ f = 10 ∨ f = 11 ∨ f = 12 ∨ f = 13 := by omega
    clear h1 h2 h3 h4 h5 h6 h7 h8
    rcases hf with rfl | rfl | rfl | rfl | rfl | rfl
    all_goals
      go_enter Try.func24, Try.ntmps24
      go_wp2_with (first | (go_at_call 48; refine (bit_any _ _).mono ?_; rintro e w' ⟨rfl, rfl⟩) | go_in)
      go_ret2
      exact ⟨rfl, 0, rfl⟩
  by_cases h14 : f = 14
  · subst h14
    go_enter Try.func24, Try.ntmps24
    go_wp2
    go_ret2
    exact ⟨rfl, 0, rfl⟩
  by_cases h15 : f = 15
  · subst h15
    go_enter Try.func24, Try.ntmps24
    go_wp2
    go_ret2
    exact ⟨rfl, 0, rfl⟩
  by_cases h16 : f = 16
  · subst h16
    by_cases h0 : b < 0
    · have hf := Lib.hid (show M.two 16 a b = .error 6 by simp [M.two, h0])
      go_enter Try.func24, Try.ntmps24
      go_wp2
      go_ret2
      exact ⟨by rw [hf.out]; rfl, 0, rfl⟩
    · have hf := Lib.hid (show M.two 16 a b = .ok (M.pow a b) by simp [M.two, h0])
      go_enter Try.func24, Try.ntmps24
      go_wp2_with (go_at_call 40; refine (power_any _ _ _ hb).mono ?_; rintro e w' ⟨rfl, rfl⟩)
      go_ret2
      exact ⟨by rw [hf.out]; rfl, 0, rfl⟩
  have hf := Lib.hid (show M.two f a b = .error 1 by
    unfold M.two
    rw [if_neg h1, if_neg h2, if_neg h3, if_neg h4, if_neg h5, if_neg h6, if_neg h7, if_neg (by omega), if_neg (by omega), if_neg (by omega), if_neg (by omega), if_neg (by omega), if_neg (by omega), if_neg h14, if_neg h15, if_neg h16])
  have g8 : f ≠ 8 := by omega
  have g9 : f ≠ 9 := by omega
  have g10 : f ≠ 10 := by omega
  have g11 : f ≠ 11 := by omega
  have g12 : f ≠ 12 := by omega
  have g13 : f ≠ 13 := by omega
  have e1 : (f == 1) = false := by simpa using h1
  have e2 : (f == 2) = false := by simpa using h2
  have e3 : (f == 3) = false := by simpa using h3
  have e4 : (f == 4) = false := by simpa using h4
  have e5 : (f == 5) = false := by simpa using h5
  have e6 : (f == 6) = false := by simpa using h6
  have e7 : (f == 7) = false := by simpa using h7
  have e8 : (f == 8) = false := by simpa using g8
  have e9 : (f == 9) = false := by simpa using g9
  have e10 : (f == 10) = false := by simpa using g10
  have e11 : (f == 11) = false := by simpa using g11
  have e12 : (f == 12) = false := by simpa using g12
  have e13 : (f == 13) = false := by simpa using g13
  have e14 : (f == 14) = false := by simpa using h14
  have e15 : (f == 15) = false := by simpa using h15
  have e16 : (f == 16) = false := by simpa using h16
  clear h1 h2 h3 h4 h5 h6 h7 h8 h14 h15 h16 g8 g9 g10 g11 g12 g13
  go_enter Try.func24, Try.ntmps24
  go_wp2
  go_ret2
  exact ⟨by rw [hf.out]; rfl, 0, rfl⟩

end Go.Proofs.Ytfnoalbnkbifmaa
