/- Texts that lie in one file: what is plain, rows, boxes, squares, and what is known of a world. No condition. -/
import Derived.Test.YtcenhemlgapkeaaDoorBdA
import Derived.Test.YtcenhemlgapkeaaDoorBdQ
import Derived.Test.YtcenhemlgapkeaaDoorBdM
/- The inverse of an odd number, among numbers that run round at 64 bits: Newton's steps, and bit by bit. No program in sight; no condition. -/
namespace Go.Proofs.YtcenhemlgapkeaaDoor
open Go.RowKit

/-- One of Newton's steps. -/
def newt (d x : Int) : Int := wrap64 (x * wrap64 (2 - wrap64 (d * x)))
/-- k of them. -/
def newts (d : Int) : Nat → Int
  | 0 => d
  | k + 1 => newt d (newts d k)
theorem newts_succ (d : Int) (k : Nat) : newts d (k + 1) = newt d (newts d k) := rfl
theorem newt_mod (d x : Int) : ∃ m : Int, newt d x = x * (2 - d * x) + 18446744073709551616 * m := by
  have h : newt d x = wrap64 (x * (2 - d * x)) := by unfold newt; rw [wrap_mul_r, ← wrap_mul_r, wrap_sub_r, wrap_mul_r]
  have h2 : (newt d x) % 18446744073709551616 = (x * (2 - d * x)) % 18446744073709551616 := by rw [h, wrap_mod]
  exact ⟨(newt d x) / 18446744073709551616 - (x * (2 - d * x)) / 18446744073709551616, by
    generalize newt d x = a at *
    generalize x * (2 - d * x) = b at *
    omega⟩
theorem newt_step {d x A B : Int} (h : A ∣ 1 - d * x) (hB : B ∣ A * A) (hM : B ∣ 18446744073709551616) : B ∣ 1 - d * newt d x := by
  obtain ⟨m, hm⟩ := newt_mod d x
  have e : 1 - d * newt d x = (1 - d * x) * (1 - d * x) - 18446744073709551616 * (d * m) := by
    rw [hm]
    simp only [Int.mul_add, Int.mul_sub, Int.sub_mul, Int.mul_one, Int.one_mul]
    have e1 : d * (x * 2) = d * x + d * x := by rw [← Int.mul_assoc, Int.mul_comm (d * x) 2]; omega
    have e2 : d * (x * (d * x)) = d * x * (d * x) := by rw [← Int.mul_assoc]
    have e3 : d * (18446744073709551616 * m) = 18446744073709551616 * (d * m) := by rw [← Int.mul_assoc, Int.mul_comm d, Int.mul_assoc]
    rw [e1, e2, e3]
    omega
  rw [e]
  exact Int.dvd_sub (Int.dvd_trans hB (Int.mul_dvd_mul h h)) (Int.dvd_trans hM (Int.dvd_mul_right _ _))
theorem odd_eight {d : Int} (h : d % 2 = 1) : (8 : Int) ∣ 1 - d * d := by
  have h8 : d % 8 = 1 ∨ d % 8 = 3 ∨ d % 8 = 5 ∨ d % 8 = 7 := by omega
  have : (d * d) % 8 = 1 := by
    rw [Int.mul_emod]
    rcases h8 with h | h | h | h <;> rw [h] <;> rfl
  omega
theorem newts_spec {d : Int} (h : d % 2 = 1) : (18446744073709551616 : Int) ∣ 1 - d * newts d 6 := by
  have h0 := odd_eight h
  have h1 : (64 : Int) ∣ 1 - d * newts d 1 := newt_step (x := newts d 0) h0 (by decide) (by decide)
  have h2 : (4096 : Int) ∣ 1 - d * newts d 2 := newt_step h1 (by decide) (by decide)
  have h3 : (16777216 : Int) ∣ 1 - d * newts d 3 := newt_step h2 (by decide) (by decide)
  have h4 : (281474976710656 : Int) ∣ 1 - d * newts d 4 := newt_step h3 (by decide) (by decide)
  have h5 : (18446744073709551616 : Int) ∣ 1 - d * newts d 5 := newt_step h4 (by decide) (by decide)
  exact newt_step h5 (by decide) (by decide)
theorem newts_i64 {d : Int} (h : I64 d) (k : Nat) : I64 (newts d k) := by
  cases k with
  | zero => exact h
  | succ k => exact I64_wrap _
theorem odd_mod {d : Int} (h : d.tmod 2 ≠ 0) : d % 2 = 1 := by
  by_cases h0 : d % 2 = 0
  · exact absurd (Int.tmod_eq_zero_of_dvd (by omega)) h
  · omega
/-- There is but one. -/
theorem inv_one {d x y : Int} (hx : (18446744073709551616 : Int) ∣ 1 - d * x) (hy : (18446744073709551616 : Int) ∣ 1 - d * y) : wrap64 x = wrap64 y := by
  rw [wrap_iff]
  have h : (18446744073709551616 : Int) ∣ x * (1 - d * y) - y * (1 - d * x) := Int.dvd_sub (Int.dvd_trans hy (Int.dvd_mul_left _ _)) (Int.dvd_trans hx (Int.dvd_mul_left _ _))
  have e : x * (1 - d * y) - y * (1 - d * x) = x - y := by
    simp only [Int.mul_sub, Int.mul_one]
    have : x * (d * y) = y * (d * x) := by rw [← Int.mul_assoc, ← Int.mul_assoc, Int.mul_comm (x * d), Int.mul_comm x d, Int.mul_assoc y]
    omega
  rw [e] at h
  omega

/-- What is found bit by bit: the inverse modulo 2^i. -/
structure BitInv (D i x : Nat) : Prop where
  lt : x < 2 ^ i
  ex : ∃ q, x * D + 18446744073709551616 = 1 + 2 ^ i * q
theorem bitInv_zero (D : Nat) : BitInv D 0 0 := ⟨by decide, 18446744073709551615, by omega⟩
/-- What is left, as the code reckons it. -/
def restOf (D x : Nat) : Nat := (x * D % 18446744073709551616 + 18446744073709551615) % 18446744073709551616
theorem rest_bit {D i x q : Nat} (hi : i < 64) (h : x * D + 18446744073709551616 = 1 + 2 ^ i * q) : restOf D x / 2 ^ i % 2 = q % 2 := by
  have e : restOf D x = (2 ^ i * q) % 2 ^ 64 := by
    unfold restOf
    generalize x * D = a at *
    generalize 2 ^ i * q = b at *
    omega
  rw [e]
  obtain ⟨j, hj⟩ : ∃ j, 64 = i + (j + 1) := ⟨63 - i, by omega⟩
  rw [hj, Nat.pow_add, Nat.mul_mod_mul_left, Nat.mul_div_cancel_left _ (Nat.two_pow_pos i)]
  rw [Nat.mod_mod_of_dvd]
  exact ⟨2 ^ j, by rw [Nat.pow_succ, Nat.mul_comm]⟩
theorem bit_set' {D i x : Nat} (hD : D % 2 = 1) (hi : i < 64) (h : BitInv D i x) (hb : restOf D x / 2 ^ i % 2 = 1) : BitInv D (i + 1) (x + 2 ^ i) := by
  obtain ⟨hx, q, hq⟩ := h
  rw [rest_bit hi hq] at hb
  refine ⟨by rw [Nat.pow_succ]; omega, (q + D) / 2, ?_⟩
  rw [Nat.add_mul, Nat.pow_succ, Nat.mul_assoc, Nat.mul_comm 2, Nat.div_mul_cancel (by omega), Nat.mul_add]
  omega
theorem bit_not {D i x : Nat} (hi : i < 64) (h : BitInv D i x) (hb : restOf D x / 2 ^ i % 2 = 0) : BitInv D (i + 1) x := by
  obtain ⟨hx, q, hq⟩ := h
  rw [rest_bit hi hq] at hb
  refine ⟨by rw [Nat.pow_succ]; omega, q / 2, ?_⟩
  rw [Nat.pow_succ, Nat.mul_assoc, Nat.mul_comm 2, Nat.div_mul_cancel (by omega)]
  exact hq
/-- At the end it is Newton's number. -/
theorem bit_end {D x : Nat} {d : Int} (hD : (D : Int) = d % 18446744073709551616) (hd : d % 2 = 1) (hi : I64 d) (h : BitInv D 64 x) : wrap64 (x : Int) = newts d 6 := by
  obtain ⟨-, q, hq⟩ := h
  rw [← wrap_id (newts_i64 hi 6)]
  refine inv_one ?_ (newts_spec hd)
  obtain ⟨k, hk⟩ : ∃ k : Int, d = D + 18446744073709551616 * k := ⟨d / 18446744073709551616, by omega⟩
  have hq' : (x : Int) * (D : Int) + 18446744073709551616 = 1 + 18446744073709551616 * (q : Int) := by
    have e1 : ((x * D : Nat) : Int) = (x : Int) * (D : Int) := Int.natCast_mul _ _
    rw [← e1]
    rw [show (2 : Nat) ^ 64 = 18446744073709551616 from by decide] at hq
    generalize x * D = a at *
    omega
  refine ⟨1 - (q : Int) - k * x, ?_⟩
  rw [hk, Int.add_mul, Int.mul_sub, Int.mul_sub, Int.mul_comm (D : Int), Int.mul_assoc]
  generalize (x : Int) * (D : Int) = a at *
  generalize k * (x : Int) = b at *
  omega
end Go.Proofs.YtcenhemlgapkeaaDoor

/- The inverse as a product. No program in sight; no condition. -/
namespace Go.Proofs.YtcenhemlgapkeaaDoor
open Go.RowKit

theorem tmod_odd {d : Int} (h : ¬ d.tmod 2 = 0) : d % 2 = 1 := by
  rcases Int.emod_two_eq d with e | e
  · exact absurd (Int.tmod_eq_zero_of_dvd (Int.dvd_of_emod_eq_zero e)) h
  · exact e

/-- The inverse. -/
def invM (n : Nat) (A : Nat → Nat → Int) (i j : Nat) : Int := Mx.adj n A i j * newts (wrap64 (Mx.det n A)) 6
theorem inv_list {n : Nat} {A F : Nat → Nat → Int} (hF : ∀ i j, i < n → j < n → F i j = Mx.adj n A i j) :
    sqList n (timesM n F (unitM n (newts (wrap64 (Mx.det n A)) 6))) = sqList n (invM n A) := by
  refine sqList_congr fun i j hi hj => ?_
  unfold timesM
  rw [if_pos ⟨hi, hj⟩]
  show wrap64 (Mx.S n fun l => F i l * unitM n _ l j) = _
  rw [Mx.S_one (k := j) hj]
  · unfold unitM invM; rw [if_pos ⟨rfl, hj⟩, hF i j hi hj]
  · intro l hl hne
    unfold unitM; rw [if_neg (fun h => hne h.1)]; exact Int.mul_zero _
end Go.Proofs.YtcenhemlgapkeaaDoor

/- The call matrix.odd: Newton's six steps. Condition: a number of 64 bits. -/
namespace Go.Proofs.YtcenhemlgapkeaaDoor
open Go.RowKit

set_option maxHeartbeats 1000000 in
theorem odd_any (d : Int) (w : World) (hd : I64 d) :
    Calls Tryd.prog 57 #[.int .i64 d] w fun e w' => e = .returned (.int .i64 (newts d 6)) ∧ w = w' := by
  unfold I64 at hd
  go_enter Tryd.func57, Tryd.ntmps57
  go_wp2
  go_loop [3, 5] (fun v3 v5 => ∃ k : Nat, k ≤ 6 ∧ v5 = .int .i64 k ∧ v3 = .int .i64 (newts d k)) (fun _ v => 6 - (intOf v).toNat)
  case atStart => exact ⟨0, by omega, rfl, rfl⟩
  case round =>
    obtain ⟨k, hk, rfl, rfl⟩ := hrel
    by_cases hlk : k < 6
    · have hs := Lib.hid (newts_succ d k)
      have hn := newts_i64 hd k
      unfold I64 at hn
      unfold newt at hs
      generalize newts d k = x at *
      go_wp2
      go_round
      case rel => exact ⟨k + 1, hlk, by go_num, by rw [hs.out]⟩
      case measure => simp [intOf]; omega
    · obtain rfl : 6 = k := by omega
      go_wp2
      go_ret
      exact ⟨rfl, rfl⟩
end Go.Proofs.YtcenhemlgapkeaaDoor
