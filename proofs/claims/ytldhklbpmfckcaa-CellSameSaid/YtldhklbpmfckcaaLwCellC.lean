/- The walks of the laws CellSame and Names: they return true whatever the input, and write nothing that was there. -/
import Derived.Test.YtldhklbpmfckcaaLwCellB
namespace Go.Proofs.Ytldhklbpmfckcaa
open Go.RowKit

theorem V_one {f n a b : Int} (ha : I64 a) (hb : I64 b) (h : M.two f a b = .ok n) (e : n = a) : (V f a b == a) = true := by rw [V_ok ha hb h, e]; exact beq_self_eq_true _
theorem V_oneR {f n a b : Int} (ha : I64 a) (hb : I64 b) (h : M.two f a b = .ok n) (e : n = b) : (V f a b == b) = true := by rw [V_ok ha hb h, e]; exact beq_self_eq_true _

/-- The walk of CellSame at one function whose neutral number is n. -/
theorem floor_one (a : Int) : M.floor a 1 = a := by
  rw [M.floor, if_neg (by decide), if_neg (by simp [Int.tmod_one]), Int.tdiv_one]

theorem bits_neutral (a : Int) (h : I64 a) : bits .and .i64 a (-1) = a ∧ bits .and .i64 (-1) a = a ∧ bits .or .i64 a 0 = a ∧ bits .or .i64 0 a = a := by
  have h1 : B (-1) = BitVec.allOnes 64 := by decide
  have h0 : B 0 = 0#64 := by decide
  rw [bits_and, bits_and, bits_or, bits_or, h1, h0, BitVec.and_allOnes, BitVec.allOnes_and, BitVec.or_zero, BitVec.zero_or, U_B, wrap_id h]
  exact ⟨rfl, rfl, rfl, rfl⟩

set_option maxHeartbeats 4000000 in
theorem cellSame_walk (f a : Int) (w : World) (hf : I64 f) (ha : I64 a) :
    Calls Try.prog 12 #[.int .i64 f, .int .i64 a] w fun e w' => e = .returned (.bool true) ∧ Below w.heap.size w w' := by
  have n0 : I64 0 := I64_lit _ (by decide)
  have n1 : I64 1 := I64_lit _ (by decide)
  have m1 : I64 (-1) := I64_lit _ (by decide)
  have mi : I64 (-9223372036854775808) := I64_lit _ (by decide)
  have mx : I64 9223372036854775807 := I64_lit _ (by decide)
  have hN := fun w => neutral_any 6 w
  simp only [show M.neutral 6 = .ok (-9223372036854775808) from rfl, resI] at hN
  replace hN := Lib.hid hN
  cases hr : M.neutral f with
  | error e =>
    have hc := neutral_any f w
    rw [hr] at hc
    dsimp only [resI] at hc
    replace hc := Lib.hid hc
    clear hr
    go_enter Try.func12, Try.ntmps12
    go_wp2_with fail
    refine (hN.out w).mono ?_
    rintro e w' ⟨rfl, rfl⟩
    go_wp2_with fail
    refine hc.out.mono ?_
    rintro e w' ⟨rfl, rfl⟩
    go_wp2_with fail
    go_ret
    exact ⟨rfl, Below.refl _ _⟩
  | ok n =>
    have key : (1 ≤ f ∧ f ≤ 7 ∨ 14 ≤ f ∧ f ≤ 16) := by
      rcases Int.lt_or_le f 1 with h | h
      · unfold M.neutral at hr
        rw [if_neg (by omega), if_neg (by omega), if_neg (by omega), if_neg (by omega), if_neg (by omega), if_neg (by omega)] at hr
        cases hr
      · rcases Int.lt_or_le 16 f with h2 | h2
        · unfold M.neutral at hr
          rw [if_neg (by omega), if_neg (by omega), if_neg (by omega), if_neg (by omega), if_neg (by omega), if_neg (by omega)] at hr
          cases hr
        · rcases Int.lt_or_le f 8 with h3 | h3
          · omega
          · rcases Int.lt_or_le 13 f with h4 | h4
            · omega
            · unfold M.neutral at hr
              rw [if_neg (by omega), if_neg (by omega), if_neg (by omega), if_neg (by omega), if_neg (by omega), if_pos (by omega)] at hr
              cases hr
    have hc := neutral_any f w
    rw [hr] at hc
    dsimp only [resI] at hc
    replace hc := Lib.hid hc
    have hs : f = 1 ∨ f = 2 ∨ f = 3 ∨ f = 4 ∨ f = 5 ∨ f = 6 ∨ f = 7 ∨ f = 14 ∨ f = 15 ∨ f = 16 := by omega
    clear key hf
    have fin : ∀ f n, I64 n → Hid (Calls Try.prog 24 #[.int .i64 f] w fun e w' => e = .returned (.tuple #[.int .i64 n, .nilIface]) ∧ w = w') →
        ((f = 5 ∧ (V f n a == a) = true) ∨ ((f = 2 ∨ f = 4 ∨ f = 16) ∧ (V f a n == a) = true) ∨ ((f = 1 ∨ f = 3 ∨ f = 6 ∨ f = 7 ∨ f = 14 ∨ f = 15) ∧ (V f a n == a) = true ∧ (V f n a == a) = true)) →
        Calls Try.prog 12 #[.int .i64 f, .int .i64 a] w fun e w' => e = .returned (.bool true) ∧ Below w.heap.size w w' := by
      clear hc hr hs f n
      intro f n hn hc hs
      replace ha := Lib.hid ha
      replace hn := Lib.hid hn
      clear n0 n1 m1 mi mx
      rcases hs with ⟨rfl, t1⟩ | ⟨hs, t1⟩ | ⟨hs, t1, t2⟩
      · go_enter Try.func12, Try.ntmps12
        go_wp2_with fail
        refine (hN.out w).mono ?_
        rintro e w' ⟨rfl, rfl⟩
        go_wp2_with fail
        refine hc.out.mono ?_
        rintro e w' ⟨rfl, rfl⟩
        go_wp2_with (go_at_call 23; refine (two_any _ _ _ _ (by first | exact ha.out | exact hn.out) (by first | exact ha.out | exact hn.out)).mono ?_; rintro e w' ⟨rfl, nd, rfl⟩)
        go_ret
        exact ⟨rfl, below_drewN (Below.refl _ _) _⟩
      · rcases hs with rfl | rfl | rfl
        all_goals
          go_enter Try.func12, Try.ntmps12
          go_wp2_with fail
          refine (hN.out w).mono ?_
          rintro e w' ⟨rfl, rfl⟩
          go_wp2_with fail
          refine hc.out.mono ?_
          rintro e w' ⟨rfl, rfl⟩
          go_wp2_with (go_at_call 23; refine (two_any _ _ _ _ (by first | exact ha.out | exact hn.out) (by first | exact ha.out | exact hn.out)).mono ?_; rintro e w' ⟨rfl, nd, rfl⟩)
          go_ret
          exact ⟨rfl, below_drewN (Below.refl _ _) _⟩
      · rcases hs with rfl | rfl | rfl | rfl | rfl | rfl
        all_goals
          go_enter Try.func12, Try.ntmps12
          go_wp2_with fail
          refine (hN.out w).mono ?_
          rintro e w' ⟨rfl, rfl⟩
          go_wp2_with fail
          refine hc.out.mono ?_
          rintro e w' ⟨rfl, rfl⟩
          go_wp2_with (go_at_call 23; refine (two_any _ _ _ _ (by first | exact ha.out | exact hn.out) (by first | exact ha.out | exact hn.out)).mono ?_; rintro e w' ⟨rfl, nd, rfl⟩)
          go_ret
          exact ⟨rfl, below_drewN (Below.refl _ _) _⟩
    obtain ⟨h14a, h14b, h15a, h15b⟩ := bits_neutral a ha
    have haw := wrap_id ha
    rcases hs with rfl | rfl | rfl | rfl | rfl | rfl | rfl | rfl | rfl | rfl
    · obtain rfl := Except.ok.inj hr
      exact fin _ _ n0 hc (.inr (.inr ⟨by decide, V_one ha n0 rfl (by rw [Int.add_zero, haw]), V_oneR n0 ha rfl (by rw [Int.zero_add, haw])⟩))
    · obtain rfl := Except.ok.inj hr
      exact fin _ _ n0 hc (.inr (.inl ⟨by decide, V_one ha n0 rfl (by rw [Int.sub_zero, haw])⟩))
    · obtain rfl := Except.ok.inj hr
      exact fin _ _ n1 hc (.inr (.inr ⟨by decide, V_one ha n1 rfl (by rw [Int.mul_one, haw]), V_oneR n1 ha rfl (by rw [Int.one_mul, haw])⟩))
    · obtain rfl := Except.ok.inj hr
      exact fin _ _ n1 hc (.inr (.inl ⟨by decide, V_one ha n1 rfl (floor_one a)⟩))
    · obtain rfl := Except.ok.inj hr
      exact fin _ _ n0 hc (.inl ⟨by decide, V_oneR n0 ha rfl rfl⟩)
    · obtain rfl := Except.ok.inj hr
      have := ha.1
      exact fin _ _ mi hc (.inr (.inr ⟨by decide, V_one ha mi rfl (by rw [if_neg (by omega)]), V_oneR mi ha rfl (by split <;> omega)⟩))
    · obtain rfl := Except.ok.inj hr
      have := ha.2
      exact fin _ _ mx hc (.inr (.inr ⟨by decide, V_one ha mx rfl (by rw [if_neg (by omega)]), V_oneR mx ha rfl (by split <;> omega)⟩))
    · obtain rfl := Except.ok.inj hr
      exact fin _ _ m1 hc (.inr (.inr ⟨by decide, V_one ha m1 rfl h14a, V_oneR m1 ha rfl h14b⟩))
    · obtain rfl := Except.ok.inj hr
      exact fin _ _ n0 hc (.inr (.inr ⟨by decide, V_one ha n0 rfl h15a, V_oneR n0 ha rfl h15b⟩))
    · obtain rfl := Except.ok.inj hr
      exact fin _ _ n1 hc (.inr (.inl ⟨by decide, V_one ha n1 (n := wrap64 (a ^ 1)) rfl (by rw [Int.pow_succ, Int.pow_zero, Int.one_mul, haw])⟩))

set_option maxHeartbeats 400000 in
theorem names_walk (w : World) : Calls Try.prog 4 #[] w fun e w' => e = .returned (.bool true) ∧ Below w.heap.size w w' := by
  go_enter Try.func4, Try.ntmps4
  go_wp2
  go_ret
  exact ⟨rfl, Below.refl _ _⟩

end Go.Proofs.Ytldhklbpmfckcaa
