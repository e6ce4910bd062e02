/- Euclid's rows, as the program reckons them (M.bez, M.bezout), and what they tell: the greatest common divisor, and of what it is the sum, modulo 2^64. No condition. -/
import Derived.Test.YtldhklbpmfckcaaDoorWrap
namespace Go.Proofs.YtldhklbpmfckcaaDoor
open Go.RowKit

namespace M
/-- Euclid's rows: the greatest common divisor, and of what it is the sum, before the sign is looked at. -/
def bez : Nat → Int → Int → Int → Int → Int → Int → Int × Int × Int
  | 0, g, x, y, _, _, _ => (g, x, y)
  | f + 1, g, x, y, h, u, v => if h = 0 then (g, x, y) else bez f h u v (wrap64 (g - wrap64 (g.tdiv h * h))) (wrap64 (x - wrap64 (g.tdiv h * u))) (wrap64 (y - wrap64 (g.tdiv h * v)))
end M

theorem rem_small {g h : Int} (hh : h ≠ 0) (hg1 : -9223372036854775808 < g) (hg2 : g ≤ 9223372036854775807) :
    IntKind.i64.wrap (g.tdiv h) = g.tdiv h ∧ wrap64 (g - wrap64 (g.tdiv h * h)) = g.tmod h ∧ (g.tmod h).natAbs < h.natAbs ∧ -9223372036854775808 < g.tmod h ∧ g.tmod h ≤ 9223372036854775807 := by
  have e1 := Int.tmod_add_tdiv_mul g h
  have hq : (g.tdiv h).natAbs ≤ g.natAbs := by rw [Int.natAbs_tdiv]; exact Nat.div_le_self _ _
  have hm : (g.tmod h).natAbs = g.natAbs % h.natAbs := Int.natAbs_tmod g h
  have hlt : (g.tmod h).natAbs < h.natAbs := by rw [hm]; exact Nat.mod_lt _ (by omega)
  have hle : (g.tmod h).natAbs ≤ g.natAbs := by rw [hm]; exact Nat.mod_le _ _
  have hqh : (g.tdiv h * h).natAbs ≤ g.natAbs := by
    rw [Int.natAbs_mul, Int.natAbs_tdiv]; exact Nat.div_mul_le_self _ _
  have hw : IntKind.i64.wrap (g.tdiv h) = g.tdiv h := by rw [IntKind.wrap_i64]; omega
  have hw2 : wrap64 (g.tdiv h * h) = g.tdiv h * h := by rw [wrap64]; omega
  refine ⟨hw, ?_, hlt, by omega, by omega⟩
  rw [hw2]
  have : g - g.tdiv h * h = g.tmod h := by omega
  rw [this, wrap64]
  omega

theorem bez_step {a b g x y h u v : Int} {f : Nat} (hh : h ≠ 0) (hg1 : -9223372036854775808 < g) (hg2 : g ≤ 9223372036854775807) (hf : h.natAbs < f) (he : M.bez (b.natAbs + 1) a 1 0 b 0 1 = M.bez f g x y h u v) :
    -9223372036854775808 < wrap64 (g - wrap64 (IntKind.i64.wrap (g.tdiv h) * h)) ∧ wrap64 (g - wrap64 (IntKind.i64.wrap (g.tdiv h) * h)) ≤ 9223372036854775807 ∧
    (wrap64 (g - wrap64 (IntKind.i64.wrap (g.tdiv h) * h))).natAbs < h.natAbs ∧
    ∃ f', (wrap64 (g - wrap64 (IntKind.i64.wrap (g.tdiv h) * h))).natAbs < f' ∧
      M.bez (b.natAbs + 1) a 1 0 b 0 1 = M.bez f' h u v (wrap64 (g - wrap64 (IntKind.i64.wrap (g.tdiv h) * h))) (wrap64 (x - wrap64 (IntKind.i64.wrap (g.tdiv h) * u))) (wrap64 (y - wrap64 (IntKind.i64.wrap (g.tdiv h) * v))) := by
  obtain ⟨h1, h2, h3, h4, h5⟩ := rem_small hh hg1 hg2
  rw [h1, h2]
  refine ⟨h4, h5, h3, ?_⟩
  cases f with
  | zero => omega
  | succ f =>
    refine ⟨f, by omega, ?_⟩
    rw [he]
    show (if h = 0 then (g, x, y) else M.bez f h u v (wrap64 (g - wrap64 (g.tdiv h * h))) (wrap64 (x - wrap64 (g.tdiv h * u))) (wrap64 (y - wrap64 (g.tdiv h * v)))) = _
    rw [if_neg hh, h2]

namespace M
/-- What Bezout tells: the greatest common divisor and the two numbers. -/
def bezout (a b : Int) : Int × Int × Int :=
  let r := bez (b.natAbs + 1) a 1 0 b 0 1
  if r.1 < 0 then (wrap64 (-wrap64 r.1), wrap64 (-wrap64 r.2.1), wrap64 (-wrap64 r.2.2)) else r
end M
theorem bezout_neg {a b g x y : Int} (h : M.bez (b.natAbs + 1) a 1 0 b 0 1 = (g, x, y)) (hg : g < 0) : M.bezout a b = (wrap64 (-wrap64 g), wrap64 (-wrap64 x), wrap64 (-wrap64 y)) := by
  unfold M.bezout; rw [h]; exact if_pos hg
theorem bezout_pos {a b g x y : Int} (h : M.bez (b.natAbs + 1) a 1 0 b 0 1 = (g, x, y)) (hg : ¬ g < 0) : M.bezout a b = (g, x, y) := by
  unfold M.bezout; rw [h]; exact if_neg hg
theorem bez_end {f : Nat} {g x y u v : Int} (h : (0 : Int).natAbs < f) : M.bez f g x y 0 u v = (g, x, y) := by
  cases f with
  | zero => exact absurd h (by decide)
  | succ f => exact if_pos rfl

/-- What is told: as far from 0 as the greatest common divisor, small, and the sum modulo 2^64. -/
theorem bez_spec (A B : Int) : ∀ (f : Nat) (g x y h u v : Int), h.natAbs < f → -9223372036854775808 < g → g ≤ 9223372036854775807 → -9223372036854775808 < h → h ≤ 9223372036854775807 →
    wrap64 g = wrap64 (A * x + B * y) → wrap64 h = wrap64 (A * u + B * v) →
    (M.bez f g x y h u v).1.natAbs = Nat.gcd g.natAbs h.natAbs ∧ -9223372036854775808 < (M.bez f g x y h u v).1 ∧ (M.bez f g x y h u v).1 ≤ 9223372036854775807 ∧
    wrap64 (M.bez f g x y h u v).1 = wrap64 (A * (M.bez f g x y h u v).2.1 + B * (M.bez f g x y h u v).2.2)
  | 0, _, _, _, _, _, _, hf, _, _, _, _, _, _ => by omega
  | f + 1, g, x, y, h, u, v, hf, g1, g2, h1, h2, eg, eh => by
    by_cases hz : h = 0
    · subst hz
      have e : M.bez (f + 1) g x y 0 u v = (g, x, y) := if_pos rfl
      rw [e]
      exact ⟨by simp, g1, g2, eg⟩
    · have e : M.bez (f + 1) g x y h u v = M.bez f h u v (wrap64 (g - wrap64 (g.tdiv h * h))) (wrap64 (x - wrap64 (g.tdiv h * u))) (wrap64 (y - wrap64 (g.tdiv h * v))) := if_neg hz
      obtain ⟨k1, k2, k3, k4, k5⟩ := rem_small hz g1 g2
      rw [e, k2]
      have key : wrap64 (g.tmod h) = wrap64 (A * wrap64 (x - wrap64 (g.tdiv h * u)) + B * wrap64 (y - wrap64 (g.tdiv h * v))) := by
        rw [← k2, wrap_wrap, wrap_sub_r]
        rw [← wrap_add_l, wrap_mul_r, wrap_add_l, ← wrap_add_r, wrap_mul_r, wrap_add_r]
        have e1 : wrap64 (g - g.tdiv h * h) = wrap64 ((A * x + B * y) - g.tdiv h * (A * u + B * v)) := by
          apply wrap_congr_sub eg
          exact wrap_congr_mul rfl eh
        rw [e1]
        have e2 : wrap64 (A * (x - wrap64 (g.tdiv h * u)) + B * (y - wrap64 (g.tdiv h * v))) = wrap64 (A * (x - g.tdiv h * u) + B * (y - g.tdiv h * v)) := by
          apply wrap_congr_add
          · apply wrap_congr_mul rfl; exact wrap_sub_r _ _
          · apply wrap_congr_mul rfl; exact wrap_sub_r _ _
        rw [e2]
        congr 1
        simp only [Int.mul_sub, Int.mul_add]
        have a1 : A * (g.tdiv h * u) = g.tdiv h * (A * u) := by rw [← Int.mul_assoc, Int.mul_comm A, Int.mul_assoc]
        have a2 : B * (g.tdiv h * v) = g.tdiv h * (B * v) := by rw [← Int.mul_assoc, Int.mul_comm B, Int.mul_assoc]
        rw [a1, a2]
        omega
      have ih := bez_spec A B f h u v (g.tmod h) (wrap64 (x - wrap64 (g.tdiv h * u))) (wrap64 (y - wrap64 (g.tdiv h * v))) (by omega) h1 h2 k4 k5 eh key
      refine ⟨?_, ih.2⟩
      rw [ih.1, Int.natAbs_tmod, Nat.gcd_comm h.natAbs (g.natAbs % h.natAbs), ← Nat.gcd_rec, Nat.gcd_comm]

/-- The greatest common divisor, as a number that is not negative, and of what it is the sum. -/
theorem bezout_spec {a b : Int} (ha : I64 a) (hb : I64 b) (h1 : a ≠ -9223372036854775808) (h2 : b ≠ -9223372036854775808) :
    (M.bezout a b).1 = (Nat.gcd a.natAbs b.natAbs : Nat) ∧ wrap64 (a * (M.bezout a b).2.1 + b * (M.bezout a b).2.2) = (M.bezout a b).1 := by
  unfold I64 at ha hb
  have s := bez_spec a b (b.natAbs + 1) a 1 0 b 0 1 (by omega) (by omega) (by omega) (by omega) (by omega) (by simp) (by simp)
  generalize hr : M.bez (b.natAbs + 1) a 1 0 b 0 1 = r at s
  obtain ⟨g, x, y⟩ := r
  obtain ⟨s1, s2, s3, s4⟩ := s
  dsimp only at s1 s2 s3 s4
  by_cases hg : g < 0
  · rw [bezout_neg hr hg]
    dsimp only
    have e1 : wrap64 (-wrap64 g) = -g := by unfold wrap64; omega
    refine ⟨by rw [e1]; omega, ?_⟩
    rw [wrap_neg, wrap_neg, wrap_neg]
    have e2 : wrap64 (a * wrap64 (-x) + b * wrap64 (-y)) = wrap64 (-(a * x + b * y)) := by
      rw [wrap_congr_add (wrap_mul_r a (-x)) (wrap_mul_r b (-y))]
      congr 1
      rw [Int.mul_neg, Int.mul_neg]
      omega
    rw [e2, ← wrap_neg, ← s4, wrap_neg]
  · rw [bezout_pos hr hg]
    dsimp only
    refine ⟨by omega, ?_⟩
    rw [← s4]
    exact wrap_id (by unfold I64; omega)

end Go.Proofs.YtldhklbpmfckcaaDoor
