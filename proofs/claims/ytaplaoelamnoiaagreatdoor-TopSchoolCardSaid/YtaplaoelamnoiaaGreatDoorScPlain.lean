/- The law TopSchool, in plain Lean: three digits in one base, and back. Condition: a base from 2 to 1000, a number below its third power. -/
import Derived.Test.YtaplaoelamnoiaaGreatDoorWkRadix
namespace Go.Proofs.YtaplaoelamnoiaaGreatDoor
open Go.RowKit

theorem floor_pos {a b : Int} (ha : 0 ≤ a) (hb : 2 ≤ b) : M.floor a b = a / b := by
  unfold M.floor
  rw [if_neg (by omega), if_neg (fun h => ?_), Int.tdiv_eq_ediv_of_nonneg ha]
  have h1 := Int.tmod_nonneg b ha
  have h2 := h.2
  rw [decide_eq_false (show ¬ a.tmod b < 0 by omega), decide_eq_false (show ¬ b < 0 by omega)] at h2
  exact absurd h2 (by decide)
theorem wsm {x : Int} (h0 : 0 ≤ x) (h1 : x ≤ 9000000000) : wrap64 x = x := by unfold wrap64; omega
/-- One step: the last digit, and what is left. -/
theorem digs_step {b n : Int} (hb : 2 ≤ b) (h0 : 0 ≤ n) (h1 : n ≤ 9000000000) : wrap64 (n - wrap64 (b * M.floor n b)) = n % b ∧ M.floor n b = n / b := by
  have e := floor_pos h0 hb
  have hq := Int.emod_add_mul_ediv n b
  have hm0 := Int.emod_nonneg n (show b ≠ 0 by omega)
  have hq0 : 0 ≤ n / b := Int.ediv_nonneg h0 (by omega)
  have hp0 : 0 ≤ b * (n / b) := Int.mul_nonneg (by omega) hq0
  rw [e, wsm hp0 (by omega), show n - b * (n / b) = n % b by omega, wsm hm0 (by omega)]
  exact ⟨rfl, rfl⟩
theorem digs_three {b n : Int} (hb : 2 ≤ b) (h0 : 0 ≤ n) (h1 : n ≤ 9000000000) :
    M.digs [b, b, b] n = ([n / b / b % b, n / b % b, n % b], n / b / b / b) := by
  have q0 : 0 ≤ n / b := Int.ediv_nonneg h0 (by omega)
  have q1 : n / b ≤ n := Int.ediv_le_self b h0
  have r0 : 0 ≤ n / b / b := Int.ediv_nonneg q0 (by omega)
  have r1 : n / b / b ≤ n / b := Int.ediv_le_self b q0
  have s1 := digs_step hb h0 h1
  have s2 := digs_step hb q0 (by omega)
  have s3 := digs_step hb r0 (by omega)
  have e1 : M.digs [b] n = ([n % b], n / b) := by
    unfold M.digs
    rw [if_neg (by omega)]
    show ([wrap64 (n - wrap64 (b * M.floor n b))], M.floor n b) = _
    rw [s1.1, s1.2]
  have e2 : M.digs [b, b] n = ([n / b % b, n % b], n / b / b) := by
    unfold M.digs
    rw [if_neg (by omega), e1]
    show ([wrap64 (n / b - wrap64 (b * M.floor (n / b) b)), n % b], M.floor (n / b) b) = _
    rw [s2.1, s2.2]
  unfold M.digs
  rw [if_neg (by omega), e2]
  show ([wrap64 (n / b / b - wrap64 (b * M.floor (n / b / b) b)), n / b % b, n % b], M.floor (n / b / b) b) = _
  rw [s3.1, s3.2]
theorem school_back {b n : Int} (hb : 2 ≤ b) (hb2 : b ≤ 1000) (h0 : 0 ≤ n) (h1 : n < b * b * b) :
    M.radV [b, b, b] (M.digs [b, b, b] n).1 3 = n := by
  have hbb : b * b ≤ 1000 * 1000 := Int.mul_le_mul hb2 hb2 (by omega) (by omega)
  have hbbb : b * b * b ≤ 1000 * 1000 * 1000 := Int.mul_le_mul hbb hb2 (by omega) (by omega)
  have hn : n ≤ 1000000000 := by omega
  rw [digs_three hb h0 (by omega)]
  have q0 : 0 ≤ n / b := Int.ediv_nonneg h0 (by omega)
  have q1 : n / b ≤ n := Int.ediv_le_self b h0
  have r0 : 0 ≤ n / b / b := Int.ediv_nonneg q0 (by omega)
  have r1 : n / b / b ≤ n / b := Int.ediv_le_self b q0
  have d1 := Int.emod_add_mul_ediv n b
  have d2 := Int.emod_add_mul_ediv (n / b) b
  have hr : n / b / b < b := by
    rw [Int.ediv_ediv_of_nonneg (by omega)]
    exact Int.ediv_lt_of_lt_mul (Int.mul_pos (by omega) (by omega)) (by rw [Int.mul_comm, ← Int.mul_assoc] at *; exact h1)
  have d3 : n / b / b % b = n / b / b := Int.emod_eq_of_lt r0 hr
  show wrap64 (wrap64 (wrap64 (wrap64 (wrap64 (wrap64 (0 * b) + n / b / b % b) * b) + n / b % b) * b) + n % b) = n
  rw [d3, Int.zero_mul, wsm (x := 0) (by omega) (by omega), Int.zero_add, wsm r0 (by omega)]
  have m1 : n / b / b * b = b * (n / b / b) := Int.mul_comm _ _
  have m2 : n / b * b = b * (n / b) := Int.mul_comm _ _
  have e0 := Int.emod_nonneg n (show b ≠ 0 by omega)
  have e1 := Int.emod_nonneg (n / b) (show b ≠ 0 by omega)
  have p1 : 0 ≤ b * (n / b / b) := Int.mul_nonneg (by omega) r0
  have p2 : 0 ≤ b * (n / b) := Int.mul_nonneg (by omega) q0
  rw [m1, wsm p1 (by omega), show b * (n / b / b) + n / b % b = n / b by omega, wsm q0 (by omega), m2, wsm p2 (by omega), show b * (n / b) + n % b = n by omega, wsm h0 (by omega)]
end Go.Proofs.YtaplaoelamnoiaaGreatDoor
