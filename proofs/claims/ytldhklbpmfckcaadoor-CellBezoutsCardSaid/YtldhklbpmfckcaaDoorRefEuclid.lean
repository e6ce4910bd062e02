/- The document's Euclid, from the end back: what it tells is M.euc; it is what the rows tell (M.bez); and the walk of the law CellBezouts. Condition: the library's one variable is laid. -/
import Derived.Test.YtldhklbpmfckcaaDoorWkBez
import Derived.Test.YtldhklbpmfckcaaDoorTold
namespace Go.Proofs.YtldhklbpmfckcaaDoor
open Go.RowKit
namespace M
/-- The first row, from the end back. -/
def euc : Nat → Int → Int → Int × Int × Int
  | 0, a, _ => (a, 1, 0)
  | f + 1, a, b => if b = 0 then (a, 1, 0) else ((euc f b (a.tmod b)).1, (euc f b (a.tmod b)).2.2, wrap64 ((euc f b (a.tmod b)).2.1 - wrap64 (a.tdiv b * (euc f b (a.tmod b)).2.2)))
end M

def tup3 (r : Int × Int × Int) : Value := .tuple #[.int .i64 r.1, .int .i64 r.2.1, .int .i64 r.2.2]

theorem euc_zero (f : Nat) (a : Int) : M.euc f a 0 = (a, 1, 0) := by cases f with | zero => rfl | succ f => exact if_pos rfl
theorem euc_step {f : Nat} {a b : Int} (h : b ≠ 0) : M.euc (f + 1) a b = ((M.euc f b (a.tmod b)).1, (M.euc f b (a.tmod b)).2.2, wrap64 ((M.euc f b (a.tmod b)).2.1 - wrap64 (a.tdiv b * (M.euc f b (a.tmod b)).2.2))) := if_neg h

set_option maxHeartbeats 1000000 in
theorem euclid_any : ∀ (f : Nat) (a b : Int) (w : World), b.natAbs < f → -9223372036854775808 < a → a ≤ 9223372036854775807 → -9223372036854775808 < b → b ≤ 9223372036854775807 →
    Calls Tryd.prog 14 #[.int .i64 a, .int .i64 b] w fun e w' => e = .returned (tup3 (M.euc f a b)) ∧ w = w'
  | 0, _, _, _, h, _, _, _, _ => by omega
  | f + 1, a, b, w, hf, a1, a2, b1, b2 => by
    by_cases hb : b = 0
    · subst hb
      have he := Lib.hid (euc_zero (f + 1) a)
      clear hf b1 b2
      go_enter Tryd.func14, Tryd.ntmps14
      go_wp2
      go_ret3
      exact ⟨by rw [he.out]; rfl, rfl⟩
    · have he := Lib.hid (euc_step (f := f) (a := a) hb)
      obtain ⟨k1, k2, k3, k4, k5⟩ := rem_small hb a1 a2
      have ih := euclid_any f b (a.tmod b) w (by omega) b1 b2 k4 k5
      generalize M.euc f b (a.tmod b) = r at ih he
      obtain ⟨g, x, y⟩ := r
      replace ih := Lib.hid ih
      clear hf a1 a2 b1 b2 k3 k4 k5
      go_enter Tryd.func14, Tryd.ntmps14
      go_wp2_with fail
      refine ih.out.mono ?_
      rintro e w' ⟨rfl, rfl⟩
      dsimp only [tup3]
      go_wp2
      go_ret3
      exact ⟨by rw [he.out]; rfl, rfl⟩

theorem I64_one : I64 1 := by unfold I64; decide
theorem I64_zero : I64 0 := by unfold I64; decide

theorem euc_I64 : ∀ (f : Nat) (a b : Int), I64 (M.euc f a b).2.1 ∧ I64 (M.euc f a b).2.2
  | 0, _, _ => ⟨I64_one, I64_zero⟩
  | f + 1, a, b => by
    by_cases hb : b = 0
    · subst hb; rw [euc_zero]; exact ⟨I64_one, I64_zero⟩
    · rw [euc_step hb]; exact ⟨(euc_I64 f b (a.tmod b)).2, I64_wrap _⟩

/-- From the end back it is the same as from the beginning on. -/
theorem bez_euc : ∀ (f : Nat) (g x y h u v : Int), h.natAbs < f → -9223372036854775808 < g → g ≤ 9223372036854775807 → -9223372036854775808 < h → h ≤ 9223372036854775807 → I64 x → I64 y → I64 u → I64 v →
    M.bez f g x y h u v = ((M.euc f g h).1, wrap64 ((M.euc f g h).2.1 * x + (M.euc f g h).2.2 * u), wrap64 ((M.euc f g h).2.1 * y + (M.euc f g h).2.2 * v))
  | 0, _, _, _, _, _, _, hf, _, _, _, _, _, _, _, _ => by omega
  | f + 1, g, x, y, h, u, v, hf, g1, g2, h1, h2, ix, iy, iu, iv => by
    by_cases hz : h = 0
    · subst hz
      rw [euc_zero]
      have e : M.bez (f + 1) g x y 0 u v = (g, x, y) := if_pos rfl
      rw [e]
      simp [wrap_id ix, wrap_id iy]
    · have e : M.bez (f + 1) g x y h u v = M.bez f h u v (wrap64 (g - wrap64 (g.tdiv h * h))) (wrap64 (x - wrap64 (g.tdiv h * u))) (wrap64 (y - wrap64 (g.tdiv h * v))) := if_neg hz
      obtain ⟨k1, k2, k3, k4, k5⟩ := rem_small hz g1 g2
      rw [e, k2, bez_euc f h u v (g.tmod h) _ _ (by omega) h1 h2 k4 k5 iu iv (I64_wrap _) (I64_wrap _), euc_step hz]
      generalize M.euc f h (g.tmod h) = r
      obtain ⟨G, X, Y⟩ := r
      dsimp only
      have key : ∀ x u : Int, wrap64 (X * u + Y * wrap64 (x - wrap64 (g.tdiv h * u))) = wrap64 (Y * x + wrap64 (X - wrap64 (g.tdiv h * Y)) * u) := by
        intro x u
        have e1 : wrap64 (X * u + Y * wrap64 (x - wrap64 (g.tdiv h * u))) = wrap64 (X * u + Y * (x - g.tdiv h * u)) :=
          wrap_congr_add rfl (wrap_congr_mul rfl (by rw [wrap_wrap, wrap_sub_r]))
        have e2 : wrap64 (Y * x + wrap64 (X - wrap64 (g.tdiv h * Y)) * u) = wrap64 (Y * x + (X - g.tdiv h * Y) * u) :=
          wrap_congr_add rfl (wrap_congr_mul (by rw [wrap_wrap, wrap_sub_r]) rfl)
        rw [e1, e2]
        congr 1
        rw [Int.mul_sub, Int.sub_mul]
        have a1 : Y * (g.tdiv h * u) = g.tdiv h * Y * u := by rw [← Int.mul_assoc, Int.mul_comm Y]
        rw [a1]
        omega
      rw [key x u, key y v]

theorem bezout_euc {a b : Int} (ha : -9223372036854775808 < a) (ha2 : a ≤ 9223372036854775807) (hb : -9223372036854775808 < b) (hb2 : b ≤ 9223372036854775807) :
    M.bez (b.natAbs + 1) a 1 0 b 0 1 = M.euc (b.natAbs + 1) a b := by
  rw [bez_euc _ a 1 0 b 0 1 (by omega) ha ha2 hb hb2 I64_one I64_zero I64_zero I64_one]
  obtain ⟨i1, i2⟩ := euc_I64 (b.natAbs + 1) a b
  simp [wrap_id i1, wrap_id i2]

theorem fact_64 : M.bezout 6 4 = (2, 1, -1) := by decide +kernel

set_option maxHeartbeats 2000000 in
theorem cellBezouts_walk (a b : Int) (w : World) (ha : I64 a) (hb : I64 b) (hg : Laid w) :
    Calls Tryd.prog 4 #[.int .i64 a, .int .i64 b] w fun e w' => e = .returned (.bool true) ∧ Below w.heap.size w w' := by
  have hf := Lib.hid fact_64
  have h64 := fun w => bezout_any 6 4 w (by unfold I64; omega) (by unfold I64; omega) (by decide) (by decide)
  rw [fact_64] at h64
  replace h64 := Lib.hid h64
  by_cases hl : a = -9223372036854775808 ∨ b = -9223372036854775808
  · have hor : (a == -9223372036854775808) = true ∨ ((a == -9223372036854775808) = false ∧ (b == -9223372036854775808) = true) := by
      rcases hl with rfl | rfl
      · exact .inl rfl
      · cases h : (a == -9223372036854775808)
        · exact .inr ⟨rfl, rfl⟩
        · exact .inl rfl
    have hlw := bezout_least a b w hl
    replace hlw := Lib.hid hlw
    clear hl ha hb
    rcases hor with k1 | ⟨k1, k2⟩
    all_goals
      go_enter Tryd.func4, Tryd.ntmps4
      go_wp2_with fail
      refine hlw.out.mono ?_
      rintro e w' ⟨rfl, rfl⟩
      go_wp2_with fail
      refine (error_any 6 6 w hg).mono ?_
      rintro e w1 ⟨rfl, b1⟩
      go_wp2_with fail
      refine (h64.out w1).mono ?_
      rintro e w2 ⟨rfl, b2⟩
      dsimp only [resZ]
      go_wp2
      go_ret
      exact ⟨rfl, below_trans b1 b2⟩
  · have na : a ≠ -9223372036854775808 := fun h => hl (.inl h)
    have nb : b ≠ -9223372036854775808 := fun h => hl (.inr h)
    have kb := bezout_any a b w ha hb na nb
    unfold I64 at ha hb
    have ke := euclid_any (b.natAbs + 1) a b w (by omega) (by omega) (by omega) (by omega) (by omega)
    have k1 : (a == -9223372036854775808) = false := by rw [beq_eq_false_iff_ne]; exact na
    have k2 : (b == -9223372036854775808) = false := by rw [beq_eq_false_iff_ne]; exact nb
    have heq := bezout_euc (a := a) (b := b) (by omega) (by omega) (by omega) (by omega)
    have hs := (bez_spec a b (b.natAbs + 1) a 1 0 b 0 1 (by omega) (by omega) (by omega) (by omega) (by omega) (by simp) (by simp)).2
    rw [heq] at hs
    obtain ⟨i1, i2⟩ := euc_I64 (b.natAbs + 1) a b
    have hbz : ∀ g x y, M.euc (b.natAbs + 1) a b = (g, x, y) → M.bezout a b = if g < 0 then (wrap64 (-wrap64 g), wrap64 (-wrap64 x), wrap64 (-wrap64 y)) else (g, x, y) := by
      intro g x y h
      rw [← heq] at h
      by_cases hgg : g < 0
      · rw [bezout_neg h hgg, if_pos hgg]
      · rw [bezout_pos h hgg, if_neg hgg]
    generalize M.euc (b.natAbs + 1) a b = r at ke hs i1 i2 hbz
    obtain ⟨g, x, y⟩ := r
    dsimp only at hs i1 i2
    have hbz := hbz g x y rfl
    have e1 : wrap64 g = g := wrap_id (by unfold I64; omega)
    rw [e1, wrap_id i1, wrap_id i2] at hbz
    replace ke := Lib.hid ke
    replace kb := Lib.hid kb
    clear hl na nb ha hb hs i1 i2 heq e1
    cases hgg : decide (g < 0) with
    | true =>
      rw [if_pos (of_decide_eq_true hgg)] at hbz
      rw [hbz] at kb
      replace hbz := Lib.hid hbz
      go_enter Tryd.func4, Tryd.ntmps4
      go_wp2_with fail
      refine ke.out.mono ?_
      rintro e w' ⟨rfl, rfl⟩
      dsimp only [tup3]
      go_wp2_with fail
      refine kb.out.mono ?_
      rintro e w0 ⟨rfl, b0⟩
      dsimp only [resZ]
      go_wp2_with fail
      refine (error_any 0 0 w0 (hg.below b0)).mono ?_
      rintro e w1 ⟨rfl, b1⟩
      go_wp2_with fail
      refine (h64.out w1).mono ?_
      rintro e w2 ⟨rfl, b2⟩
      dsimp only [resZ]
      go_wp2
      go_ret
      exact ⟨rfl, below_trans (below_trans b0 b1) b2⟩
    | false =>
      rw [if_neg (of_decide_eq_false hgg)] at hbz
      rw [hbz] at kb
      replace hbz := Lib.hid hbz
      go_enter Tryd.func4, Tryd.ntmps4
      go_wp2_with fail
      refine ke.out.mono ?_
      rintro e w' ⟨rfl, rfl⟩
      dsimp only [tup3]
      go_wp2_with fail
      refine kb.out.mono ?_
      rintro e w0 ⟨rfl, b0⟩
      dsimp only [resZ]
      go_wp2_with fail
      refine (error_any 0 0 w0 (hg.below b0)).mono ?_
      rintro e w1 ⟨rfl, b1⟩
      go_wp2_with fail
      refine (h64.out w1).mono ?_
      rintro e w2 ⟨rfl, b2⟩
      dsimp only [resZ]
      go_wp2
      go_ret
      exact ⟨rfl, below_trans (below_trans b0 b1) b2⟩

end Go.Proofs.YtldhklbpmfckcaaDoor
