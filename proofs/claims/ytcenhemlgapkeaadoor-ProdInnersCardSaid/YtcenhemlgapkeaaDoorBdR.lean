/- Texts that lie in one file: what is plain, rows, boxes, squares, and what is known of a world. No condition. -/
import Derived.Test.YtcenhemlgapkeaaDoorBdA
/- Plain facts on the document's division digit by digit, and on bits one by one. No program in sight. -/
namespace Go.Proofs.YtcenhemlgapkeaaDoor.Tw

theorem half (X : Int) (i : Nat) : X / 2 ^ i = 2 * (X / 2 ^ (i + 1)) + X / 2 ^ i % 2 := by
  have h : X / 2 ^ (i + 1) = X / 2 ^ i / 2 := by
    rw [Int.pow_succ, Int.ediv_ediv_of_nonneg (Int.pow_nonneg (by decide))]
  rw [h]; omega

/-- The rest, and the quotient, behind all bits but the lowest m. -/
def rest (X Y : Int) (m : Nat) : Int := X / 2 ^ m % Y
def quot (X Y : Int) (m : Nat) : Int := X / 2 ^ m / Y * 2 ^ m

theorem pow_pos' (m : Nat) : (0 : Int) < 2 ^ m := Int.pow_pos (by decide)
theorem pow_le' {m n : Nat} (h : m ≤ n) : (2 : Int) ^ m ≤ 2 ^ n := by
  have := Nat.pow_le_pow_right (show 0 < 2 by decide) h
  exact_mod_cast this

theorem rest_bound {X Y : Int} (hY : 0 < Y) (m : Nat) : 0 ≤ rest X Y m ∧ rest X Y m < Y := ⟨Int.emod_nonneg _ (by omega), Int.emod_lt_of_pos _ hY⟩

theorem quot_bound {X Y : Int} (hX : 0 ≤ X) (hY : 0 < Y) (m : Nat) : 0 ≤ quot X Y m ∧ quot X Y m ≤ X := by
  have h1 : 0 ≤ X / 2 ^ m := Int.ediv_nonneg hX (Int.le_of_lt (pow_pos' m))
  have h2 : 0 ≤ X / 2 ^ m / Y := Int.ediv_nonneg h1 (by omega)
  have h3 : X / 2 ^ m / Y ≤ X / 2 ^ m := Int.ediv_le_self _ h1
  refine ⟨Int.mul_nonneg h2 (Int.le_of_lt (pow_pos' m)), ?_⟩
  have h4 : X / 2 ^ m / Y * 2 ^ m ≤ X / 2 ^ m * 2 ^ m := Int.mul_le_mul_of_nonneg_right h3 (Int.le_of_lt (pow_pos' m))
  have h5 : X / 2 ^ m * 2 ^ m ≤ X := Int.ediv_mul_le X (Int.ne_of_gt (pow_pos' m))
  exact Int.le_trans h4 h5

theorem step (X Y : Int) (hY : 0 < Y) (i : Nat) :
    (Y ≤ 2 * rest X Y (i + 1) + X / 2 ^ i % 2 → rest X Y i = 2 * rest X Y (i + 1) + X / 2 ^ i % 2 - Y ∧ quot X Y i = quot X Y (i + 1) + 2 ^ i) ∧
    (2 * rest X Y (i + 1) + X / 2 ^ i % 2 < Y → rest X Y i = 2 * rest X Y (i + 1) + X / 2 ^ i % 2 ∧ quot X Y i = quot X Y (i + 1)) := by
  have hb := rest_bound (X := X) hY (i + 1)
  have hh := half X i
  unfold rest quot at *
  generalize hA : X / 2 ^ (i + 1) = A at *
  generalize hB : X / 2 ^ i % 2 = b at *
  have b2 : 0 ≤ b ∧ b < 2 := by omega
  have e : X / 2 ^ i = 2 * (A / Y) * Y + (2 * (A % Y) + b) := by
    have := Int.ediv_mul_add_emod A Y
    rw [hh, Int.mul_assoc]; omega
  generalize hq : A / Y = q at *
  generalize hr : A % Y = r at *
  have p : (2 : Int) ^ (i + 1) = 2 * 2 ^ i := by rw [Int.pow_succ, Int.mul_comm]
  constructor
  · intro h
    have e2 : X / 2 ^ i = (2 * r + b - Y) + Y * (2 * q + 1) := by rw [e, Int.mul_add, Int.mul_one, Int.mul_comm Y]; omega
    have d : X / 2 ^ i / Y = 2 * q + 1 := by rw [e2, Int.add_mul_ediv_left _ _ (by omega), Int.ediv_eq_zero_of_lt (by omega) (by omega), Int.zero_add]
    have m : X / 2 ^ i % Y = 2 * r + b - Y := by rw [e2, Int.add_mul_emod_self_left, Int.emod_eq_of_lt (by omega) (by omega)]
    refine ⟨m, ?_⟩
    rw [d, p, Int.add_mul, Int.one_mul, ← Int.mul_assoc, Int.mul_comm q 2]
  · intro h
    have e2 : X / 2 ^ i = (2 * r + b) + Y * (2 * q) := by rw [e, Int.mul_comm Y]; omega
    have d : X / 2 ^ i / Y = 2 * q := by rw [e2, Int.add_mul_ediv_left _ _ (by omega), Int.ediv_eq_zero_of_lt (by omega) (by omega), Int.zero_add]
    have m : X / 2 ^ i % Y = 2 * r + b := by rw [e2, Int.add_mul_emod_self_left, Int.emod_eq_of_lt (by omega) (by omega)]
    refine ⟨m, ?_⟩
    rw [d, p, ← Int.mul_assoc, Int.mul_comm q 2]

theorem start (X Y : Int) (hX : 0 ≤ X) (hl : X < 18446744073709551616) : rest X Y 64 = 0 ∧ quot X Y 64 = 0 := by
  have : X / 2 ^ 64 = 0 := Int.ediv_eq_zero_of_lt hX (by simpa using hl)
  unfold rest quot
  rw [this]; simp

/-- The greatest whole number not above, by the numbers without their signs. -/
theorem signs (a b : Int) (h0 : b ≠ 0) (h1 : b ≠ -1) :
    (if a.tmod b ≠ 0 ∧ (decide (a.tmod b < 0) != decide (b < 0)) = true then a.tdiv b - 1 else a.tdiv b) =
      if (decide (a < 0) != decide (b < 0)) = true then -((a.natAbs : Int) / (b.natAbs : Int) + if (a.natAbs : Int) % (b.natAbs : Int) = 0 then 0 else 1) else (a.natAbs : Int) / (b.natAbs : Int) := by
  obtain ⟨m, hm⟩ : ∃ m : Nat, a = m ∨ a = -m := ⟨a.natAbs, by omega⟩
  obtain ⟨n, hn⟩ : ∃ n : Nat, b = n ∨ b = -n := ⟨b.natAbs, by omega⟩
  have q0 : 0 ≤ (m : Int) / (n : Int) := Int.ediv_nonneg (by omega) (by omega)
  have r0 : 0 ≤ (m : Int) % (n : Int) := Int.emod_nonneg _ (by omega)
  have z : m = 0 → (m : Int) / (n : Int) = 0 ∧ (m : Int) % (n : Int) = 0 := fun h => by subst h; simp
  have e1 : ((m : Int)).tdiv n = (m : Int) / n := Int.tdiv_eq_ediv_of_nonneg (by omega)
  have e2 : ((m : Int)).tmod n = (m : Int) % n := Int.tmod_eq_emod_of_nonneg (by omega)
  generalize hq : (m : Int) / (n : Int) = q at *
  generalize hr : (m : Int) % (n : Int) = r at *
  rcases hm with rfl | rfl <;> rcases hn with rfl | rfl
  all_goals
    simp only [Int.neg_tdiv, Int.tdiv_neg, Int.neg_tmod, Int.tmod_neg, Int.natAbs_neg, Int.natAbs_natCast, e1, e2, hq, hr]
  · have d1 : decide (r < 0) = false := decide_eq_false (by omega)
    have d2 : decide ((n : Int) < 0) = false := decide_eq_false (by omega)
    have d3 : decide ((m : Int) < 0) = false := decide_eq_false (by omega)
    rw [d1, d2, d3]; simp
  · have d1 : decide (r < 0) = false := decide_eq_false (by omega)
    have d2 : decide (-(n : Int) < 0) = true := decide_eq_true (by omega)
    have d3 : decide ((m : Int) < 0) = false := decide_eq_false (by omega)
    rw [d1, d2, d3]
    by_cases h : r = 0 <;> simp [h] <;> omega
  · have d2 : decide ((n : Int) < 0) = false := decide_eq_false (by omega)
    rw [d2]
    by_cases h : r = 0
    · by_cases h2 : m = 0
      · have := z h2; simp [h, h2]; omega
      · have d3 : decide (-(m : Int) < 0) = true := decide_eq_true (by omega)
        rw [d3]; simp [h]
    · have d1 : decide (-r < 0) = true := decide_eq_true (by omega)
      have d3 : decide (-(m : Int) < 0) = true := decide_eq_true (by have := z; omega)
      rw [d1, d3]; simp [h]; omega
  · have d2 : decide (-(n : Int) < 0) = true := decide_eq_true (by omega)
    rw [d2]
    by_cases h : r = 0
    · by_cases h2 : m = 0
      · have := z h2; simp [h, h2]; omega
      · have d3 : decide (-(m : Int) < 0) = true := decide_eq_true (by omega)
        rw [d3]; simp [h]
    · have d1 : decide (-r < 0) = true := decide_eq_true (by omega)
      have d3 : decide (-(m : Int) < 0) = true := decide_eq_true (by have := z; omega)
      rw [d1, d3]; simp

theorem bit_half (G : Nat) (i : Nat) : G / 2 ^ i = 2 * (G / 2 ^ (i + 1)) + (if G.testBit i then 1 else 0) := by
  have h : G / 2 ^ (i + 1) = G / 2 ^ i / 2 := by rw [Nat.pow_succ, Nat.div_div_eq_div_mul]
  have t : G.testBit i = decide (G / 2 ^ i % 2 = 1) := Nat.testBit_eq_decide_div_mod_eq
  rw [h, t]
  by_cases e : G / 2 ^ i % 2 = 1 <;> simp [e] <;> omega

end Go.Proofs.YtcenhemlgapkeaaDoor.Tw

/- A result of the document's: a number and the number of an error. -/
namespace Go.Proofs.YtcenhemlgapkeaaDoor

/-- A number and the number of an error. -/
def refI : Except Int Int → Value
  | .ok n => .tuple #[.int .i64 n, .int .i64 0]
  | .error e => .tuple #[.int .i64 0, .int .i64 e]

end Go.Proofs.YtcenhemlgapkeaaDoor
