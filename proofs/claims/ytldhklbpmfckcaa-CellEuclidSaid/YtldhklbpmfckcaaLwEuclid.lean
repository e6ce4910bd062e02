/- The walk of the law CellEuclid: it returns true whatever the input, and writes nothing that was there. -/
import Derived.Test.YtldhklbpmfckcaaWkBez
namespace Go.Proofs.Ytldhklbpmfckcaa
open Go.RowKit

theorem fact_bezout : M.bezout 12 (-18) = (6, -1, -1) := by decide +kernel

theorem tmod_zero {a g : Int} (h : g ∣ a) : a.tmod g = 0 := Int.tmod_eq_zero_of_dvd h
theorem dvd_of_tmod {a g : Int} (h : a.tmod g = 0) : g ∣ a := Int.dvd_of_tmod_eq_zero h

set_option maxHeartbeats 2000000 in
theorem cellEuclid_walk (a b d : Int) (w : World) (ha : I64 a) (hb : I64 b) (hd : I64 d) :
    Calls Try.prog 3 #[.int .i64 a, .int .i64 b, .int .i64 d] w fun e w' => e = .returned (.bool true) ∧ Below w.heap.size w w' := by
  have hf := Lib.hid fact_bezout
  have h12 := bezout_any 12 (-18) w (by unfold I64; omega) (by unfold I64; omega) (by decide) (by decide)
  by_cases hl : a = -9223372036854775808 ∨ b = -9223372036854775808
  · have hor : (a == -9223372036854775808) = true ∨ ((a == -9223372036854775808) = false ∧ (b == -9223372036854775808) = true) := by
      rcases hl with rfl | rfl
      · exact .inl rfl
      · cases h : (a == -9223372036854775808)
        · exact .inr ⟨rfl, rfl⟩
        · exact .inl rfl
    have hlw := fun w => bezout_least a b w hl
    replace hlw := Lib.hid hlw
    replace h12 := Lib.hid h12
    clear hl ha hb hd
    rcases hor with k1 | ⟨k1, k2⟩
    · go_enter Try.func3, Try.ntmps3
      go_wp2_with fail
      refine h12.out.mono ?_
      rintro e w1 ⟨rfl, b1⟩
      rw [hf.out]
      dsimp only [resZ]
      go_wp2_with fail
      refine (hlw.out w1).mono ?_
      rintro e w' ⟨rfl, rfl⟩
      go_wp2
      go_ret
      exact ⟨rfl, b1⟩
    · go_enter Try.func3, Try.ntmps3
      go_wp2_with fail
      refine h12.out.mono ?_
      rintro e w1 ⟨rfl, b1⟩
      rw [hf.out]
      dsimp only [resZ]
      go_wp2_with fail
      refine (hlw.out w1).mono ?_
      rintro e w' ⟨rfl, rfl⟩
      go_wp2
      go_ret
      exact ⟨rfl, b1⟩
  · have na : a ≠ -9223372036854775808 := fun h => hl (.inl h)
    have nb : b ≠ -9223372036854775808 := fun h => hl (.inr h)
    obtain ⟨s1, s2⟩ := bezout_spec ha hb na nb
    have hlw := fun w => bezout_any a b w ha hb na nb
    generalize M.bezout a b = r at s1 s2 hlw
    obtain ⟨g, x, y⟩ := r
    dsimp only at s1 s2
    have e1 : decide (g < 0) = false := decide_eq_false (by omega)
    have e2 : (wrap64 (wrap64 (a * x) + wrap64 (b * y)) != g) = false := by
      rw [bne_eq_false_iff_eq, wrap_add_l, wrap_add_r]; exact s2
    have hga : g ∣ a := by rw [s1]; exact Int.ofNat_dvd_left.2 (Nat.gcd_dvd_left _ _)
    have hgb : g ∣ b := by rw [s1]; exact Int.ofNat_dvd_left.2 (Nat.gcd_dvd_right _ _)
    have hdg : d ∣ a → d ∣ b → d ∣ g := fun h k => by
      rw [s1]; exact Int.ofNat_dvd_right.2 (Nat.dvd_gcd (Int.natAbs_dvd_natAbs.2 h) (Int.natAbs_dvd_natAbs.2 k))
    have h00 : g = 0 → a = 0 ∧ b = 0 := fun h => by
      rw [h] at hga hgb; exact ⟨Int.zero_dvd.1 hga, Int.zero_dvd.1 hgb⟩
    replace hlw := Lib.hid hlw
    replace h12 := Lib.hid h12
    replace s1 := Lib.hid s1
    replace s2 := Lib.hid s2
    clear hl na nb ha hb hd
    by_cases hg : g = 0
    · obtain ⟨rfl, rfl⟩ := h00 hg
      clear hga hgb hdg h00 s1
      subst hg
      go_enter Try.func3, Try.ntmps3
      go_wp2_with fail
      refine h12.out.mono ?_
      rintro e w1 ⟨rfl, b1⟩
      rw [hf.out]
      dsimp only [resZ]
      go_wp2_with fail
      refine (hlw.out w1).mono ?_
      rintro e w2 ⟨rfl, b2⟩
      dsimp only [resZ]
      go_wp2
      go_ret
      exact ⟨rfl, below_trans b1 b2⟩
    · have e3 : (g == 0) = false := by rw [beq_eq_false_iff_ne]; exact hg
      have e4 : (a.tmod g != 0) = false := by rw [bne_eq_false_iff_eq]; exact tmod_zero hga
      have e5 : (b.tmod g != 0) = false := by rw [bne_eq_false_iff_eq]; exact tmod_zero hgb
      have cases3 : ((d == 0) = true ∧ True) ∨ ((d == 0) = false ∧ d ≠ 0 ∧ (a.tmod d != 0) = true) ∨ ((d == 0) = false ∧ d ≠ 0 ∧ (a.tmod d != 0) = false ∧ (b.tmod d != 0) = true) ∨
          ((d == 0) = false ∧ d ≠ 0 ∧ (a.tmod d != 0) = false ∧ (b.tmod d != 0) = false ∧ (g.tmod d == 0) = true) := by
        cases c1 : (d == 0)
        · cases c2 : (a.tmod d != 0)
          · cases c3 : (b.tmod d != 0)
            · refine .inr (.inr (.inr ⟨rfl, beq_eq_false_iff_ne.1 c1, rfl, rfl, ?_⟩))
              rw [beq_iff_eq]
              exact tmod_zero (hdg (dvd_of_tmod (bne_eq_false_iff_eq.1 c2)) (dvd_of_tmod (bne_eq_false_iff_eq.1 c3)))
            · exact .inr (.inr (.inl ⟨rfl, beq_eq_false_iff_ne.1 c1, rfl, rfl⟩))
          · exact .inr (.inl ⟨rfl, beq_eq_false_iff_ne.1 c1, rfl⟩)
        · exact .inl ⟨rfl, trivial⟩
      clear hga hgb hdg h00 s1 s2
      have hg0 := hg
      rcases cases3 with ⟨k1, _⟩ | ⟨k1, k0, k2⟩ | ⟨k1, k0, k2, k3⟩ | ⟨k1, k0, k2, k3, k4⟩
      all_goals
        go_enter Try.func3, Try.ntmps3
        go_wp2_with fail
        refine h12.out.mono ?_
        rintro e w1 ⟨rfl, b1⟩
        rw [hf.out]
        dsimp only [resZ]
        go_wp2_with fail
        refine (hlw.out w1).mono ?_
        rintro e w2 ⟨rfl, b2⟩
        dsimp only [resZ]
        go_wp2
        go_ret
        exact ⟨rfl, below_trans b1 b2⟩

end Go.Proofs.Ytldhklbpmfckcaa
