/- Plain facts on numbers that run round at 64 bits: wraps inside a wrap may go. No condition. -/
import Derived.Test.YtohnimfjekemjaaKit
namespace Go.Proofs.Ytohnimfjekemjaa
open Go.RowKit

theorem I64_wrap (n : Int) : I64 (wrap64 n) := by unfold I64 wrap64; omega
theorem wrap_id {n : Int} (h : I64 n) : wrap64 n = n := IntWalk.wrap64_in n h
theorem wrap_iff (a b : Int) : wrap64 a = wrap64 b ↔ a % 18446744073709551616 = b % 18446744073709551616 := by unfold wrap64; omega
theorem wrap_mod (a : Int) : wrap64 a % 18446744073709551616 = a % 18446744073709551616 := by unfold wrap64; omega
theorem wrap_wrap (a : Int) : wrap64 (wrap64 a) = wrap64 a := wrap_id (I64_wrap a)
theorem wrap_add_l (a b : Int) : wrap64 (wrap64 a + b) = wrap64 (a + b) := by unfold wrap64; omega
theorem wrap_add_r (a b : Int) : wrap64 (a + wrap64 b) = wrap64 (a + b) := by unfold wrap64; omega
theorem wrap_sub_l (a b : Int) : wrap64 (wrap64 a - b) = wrap64 (a - b) := by unfold wrap64; omega
theorem wrap_sub_r (a b : Int) : wrap64 (a - wrap64 b) = wrap64 (a - b) := by unfold wrap64; omega
theorem wrap_neg (a : Int) : wrap64 (-wrap64 a) = wrap64 (-a) := by unfold wrap64; omega
theorem wrap_mul_l (a b : Int) : wrap64 (wrap64 a * b) = wrap64 (a * b) := by
  rw [wrap_iff, Int.mul_emod, wrap_mod, ← Int.mul_emod]
theorem wrap_mul_r (a b : Int) : wrap64 (a * wrap64 b) = wrap64 (a * b) := by
  rw [wrap_iff, Int.mul_emod, wrap_mod, ← Int.mul_emod]
theorem wrap_pow (a : Int) (n : Nat) : wrap64 (wrap64 a ^ n) = wrap64 (a ^ n) := by
  induction n with
  | zero => rw [Int.pow_zero, Int.pow_zero]
  | succ n ih => rw [Int.pow_succ, Int.pow_succ, wrap_mul_r, ← wrap_mul_l, ih, wrap_mul_l]
theorem wrap_congr_mul {a b c d : Int} (h : wrap64 a = wrap64 b) (k : wrap64 c = wrap64 d) : wrap64 (a * c) = wrap64 (b * d) := by
  rw [← wrap_mul_l, h, wrap_mul_l, ← wrap_mul_r, k, wrap_mul_r]
theorem wrap_congr_add {a b c d : Int} (h : wrap64 a = wrap64 b) (k : wrap64 c = wrap64 d) : wrap64 (a + c) = wrap64 (b + d) := by
  rw [← wrap_add_l, h, wrap_add_l, ← wrap_add_r, k, wrap_add_r]
theorem wrap_congr_sub {a b c d : Int} (h : wrap64 a = wrap64 b) (k : wrap64 c = wrap64 d) : wrap64 (a - c) = wrap64 (b - d) := by
  rw [← wrap_sub_l, h, wrap_sub_l, ← wrap_sub_r, k, wrap_sub_r]

theorem wraps_i64 (n : Int) (h₀ : 0 ≤ n) (h₁ : n < 2 ^ 63) : IntKind.i64.wrap n = n := by rw [IntKind.wrap_i64]; omega
theorem and_one {y : Int} (h0 : 0 ≤ y) (h : I64 y) : bits .and .i64 y 1 = y % 2 := by
  have := bits_mask .i64 63 (by decide) wraps_i64 1 (by decide) y h0 (by have := h.2; omega)
  simpa using this

end Go.Proofs.Ytohnimfjekemjaa
