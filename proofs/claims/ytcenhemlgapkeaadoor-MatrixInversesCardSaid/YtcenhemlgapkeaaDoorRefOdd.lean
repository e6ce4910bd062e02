/- The document's Odd: bit by bit. Condition: an odd number of 64 bits. -/
import Derived.Test.YtcenhemlgapkeaaDoorOddPlain
import Derived.Deep.Cut
namespace Go.Proofs.YtcenhemlgapkeaaDoor
open Go.RowKit

/-- What is known of the number that is turned. -/
structure DFact (d : Int) (D : Nat) : Prop where
  eq : (D : Int) = d % 18446744073709551616
  odd : D % 2 = 1
  low : (D : Int) < 18446744073709551616
  conv : IntKind.u64.wrap d = (D : Int)
  fin : ∀ x, BitInv D 64 x → wrap64 (x : Int) = newts d 6
theorem dfact {d : Int} (hd : I64 d) (ho : d % 2 = 1) : ∃ D, DFact d D := by
  obtain ⟨D, hD⟩ : ∃ D : Nat, (D : Int) = d % 18446744073709551616 := ⟨(d % 18446744073709551616).toNat, by omega⟩
  exact ⟨D, hD, by omega, by omega, by rw [hD]; rfl, fun x h => bit_end hD ho hd h⟩

theorem rest_int (D x : Nat) : IntKind.u64.wrap (IntKind.u64.wrap ((x : Int) * (D : Int)) - 1) = ((restOf D x : Nat) : Int) := by
  rw [IntKind.wrap_u64, IntKind.wrap_u64, ← Int.natCast_mul]
  unfold restOf
  generalize x * D = a
  omega
theorem pow_u64 {i : Nat} (h : i < 64) : (2 : Nat) ^ i < 18446744073709551616 := by
  have : (2 : Nat) ^ i ≤ 2 ^ 63 := Nat.pow_le_pow_right (by decide) (by omega)
  have e : (2 : Nat) ^ 63 < 18446744073709551616 := by decide
  omega
theorem shl_u64 {i : Nat} (h : i < 64) : IntKind.u64.wrap ((2 : Int) ^ i) = (2 : Int) ^ i := by
  have h2 := pow_u64 h
  have e : ((2 : Int) ^ i) = ((2 ^ i : Nat) : Int) := by simp
  rw [e, IntKind.wrap_u64]
  generalize (2 : Nat) ^ i = p at *
  omega
theorem sum_u64 {i x : Nat} (h : i < 64) (hx : x < 2 ^ i) : IntKind.u64.wrap ((x : Int) + (2 : Int) ^ i) = ((x + 2 ^ i : Nat) : Int) := by
  have h2 : (2 : Nat) ^ i ≤ 2 ^ 63 := Nat.pow_le_pow_right (by decide) (by omega)
  have e : ((2 : Int) ^ i) = ((2 ^ i : Nat) : Int) := by simp
  rw [e, IntKind.wrap_u64]
  have e2 : (2 : Nat) ^ 63 = 9223372036854775808 := by decide
  rw [e2] at h2
  generalize (2 : Nat) ^ i = p at *
  omega
theorem test_u64 (R i : Nat) : (((R : Int) / (2 : Int) ^ i).tmod 2 == 1) = decide (R / 2 ^ i % 2 = 1) := by
  have e : ((2 : Int) ^ i) = ((2 ^ i : Nat) : Int) := by simp
  rw [e, ← Int.natCast_ediv, Int.tmod_eq_emod_of_nonneg (Int.natCast_nonneg _), Bool.eq_iff_iff, beq_iff_eq, decide_eq_true_eq]
  generalize R / 2 ^ i = q
  omega

set_option maxRecDepth 20000 in
set_option maxHeartbeats 1000000 in
theorem refOdd_any (d : Int) (w : World) (hd : I64 d) (ho : d % 2 = 1) :
    Calls Tryd.prog 56 #[.int .i64 d] w fun e w' => e = .returned (.int .i64 (newts d 6)) ∧ w = w' := by
  obtain ⟨D, hD⟩ := dfact hd ho
  clear hd ho
  go_enter Tryd.func56, Tryd.ntmps56
  go_wp2
  go_loop [3, 4] (fun v3 v4 => ∃ i x : Nat, i ≤ 64 ∧ v4 = .int .i64 i ∧ v3 = .int .u64 (x : Int) ∧ BitInv D i x) (fun _ v => 64 - (intOf v).toNat)
  case atStart => exact ⟨0, 0, by omega, rfl, rfl, bitInv_zero D⟩
  case round =>
    obtain ⟨i, x, hi, rfl, rfl, hinv⟩ := hrel
    by_cases hli : i < 64
    · have hc := hD.conv
      have h1 := rest_int D x
      have h2 := shl_u64 hli
      have h3 := sum_u64 hli hinv.lt
      have h4 := test_u64 (restOf D x) i
      have y1 := fun h => bit_set' hD.odd hli hinv h
      have y0 := fun h => bit_not hli hinv h
      cases hb : decide (restOf D x / 2 ^ i % 2 = 1) with
      | true =>
        rw [hb] at h4
        have hn := y1 (of_decide_eq_true hb)
        replace hb := Lib.hid hb
        generalize restOf D x = R at *
        clear y1 y0 hinv
        go_wp2
        go_round
        case rel => exact ⟨i + 1, x + 2 ^ i, hli, by go_num, by simp, hn⟩
        case measure => simp [intOf]; omega
      | false =>
        rw [hb] at h4
        have hn := y0 (by have := of_decide_eq_false hb; omega)
        replace hb := Lib.hid hb
        generalize restOf D x = R at *
        clear y1 y0 hinv
        go_wp2
        go_round
        case rel => exact ⟨i + 1, x, hli, by go_num, rfl, hn⟩
        case measure => simp [intOf]; omega
    · obtain rfl : 64 = i := by omega
      have he := Lib.hid (hD.fin _ hinv)
      replace hinv := Lib.hid hinv
      go_wp2
      go_ret
      exact ⟨by rw [← he.out]; rfl, rfl⟩
end Go.Proofs.YtcenhemlgapkeaaDoor
