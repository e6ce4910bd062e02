/- The document's Quotient, raised, bitwise, chosen and Two: what they tell is M.two. Condition: the numbers are of 64 bits. -/
import Derived.Test.YtcenhemlgapkeaaDoorTw
import Derived.Test.YtcenhemlgapkeaaDoorWkCell
import Derived.Test.YtcenhemlgapkeaaDoorFits
import Derived.Test.YtcenhemlgapkeaaDoorRefI
namespace Go.Proofs.YtcenhemlgapkeaaDoor
open Go.RowKit

theorem u64_in (n : Int) (h0 : 0 ≤ n) (h1 : n < 18446744073709551616) : IntKind.u64.wrap n = n := by
  rw [IntKind.wrap_u64]; omega

/-- The quotient by the numbers without signs. -/
theorem floor_signs {a b : Int} (ha : I64 a) (h0 : b ≠ 0) :
    M.floor a b = wrap64 (if (decide (a < 0) != decide (b < 0)) = true then -((a.natAbs : Int) / (b.natAbs : Int) + if (a.natAbs : Int) % (b.natAbs : Int) = 0 then 0 else 1) else (a.natAbs : Int) / (b.natAbs : Int)) := by
  by_cases h1 : b = -1
  · subst h1
    have e : M.floor a (-1) = wrap64 (-a) := if_pos rfl
    rw [e]
    congr 1
    have n1 : ((-1 : Int).natAbs : Int) = 1 := rfl
    rw [n1, Int.ediv_one, Int.emod_one, if_pos rfl]
    have d : decide ((-1 : Int) < 0) = true := rfl
    rw [d]
    by_cases h : a < 0
    · rw [decide_eq_true h]; simp; omega
    · rw [decide_eq_false h]; simp; omega
  · rw [← Tw.signs a b h0 h1]
    have e : M.floor a b = if a.tmod b ≠ 0 ∧ (decide (a.tmod b < 0) != decide (b < 0)) = true then a.tdiv b - 1 else a.tdiv b := if_neg h1
    rw [← e]
    exact (wrap_id (I64_floor a b ha)).symm

set_option maxHeartbeats 2000000 in
theorem quotient_any (a b : Int) (w : World) (ha : I64 a) (hb : I64 b) (h0 : b ≠ 0) :
    Calls Tryd.prog 94 #[.int .i64 a, .int .i64 b] w fun e w' => e = .returned (.int .i64 (M.floor a b)) ∧ w = w' := by
  have hfl := floor_signs ha h0
  obtain ⟨X, hX⟩ : ∃ X : Int, X = a.natAbs := ⟨_, rfl⟩
  obtain ⟨Y, hY⟩ : ∃ Y : Int, Y = b.natAbs := ⟨_, rfl⟩
  rw [← hX, ← hY] at hfl
  unfold I64 at ha hb
  have x0 : 0 ≤ X := by omega
  have x1 : X ≤ 9223372036854775808 := by omega
  have y0 : 1 ≤ Y := by omega
  have y1 : Y ≤ 9223372036854775808 := by omega
  obtain ⟨st1, st2⟩ := Tw.start X Y x0 (by omega)
  have hstep := Tw.step X Y (by omega)
  have hrest := fun m => Tw.rest_bound (X := X) (Y := Y) (by omega) m
  have hquot := fun m => Tw.quot_bound (X := X) (Y := Y) x0 (by omega) m
  have hr0 : Tw.rest X Y 0 = X % Y := by unfold Tw.rest; rw [Int.pow_zero, Int.ediv_one]
  have hq0 : Tw.quot X Y 0 = X / Y := by unfold Tw.quot; rw [Int.pow_zero, Int.ediv_one, Int.mul_one]
  rw [← hr0, ← hq0] at hfl
  replace hr0 := Lib.hid hr0
  replace hq0 := Lib.hid hq0
  replace st1 := Lib.hid st1
  replace st2 := Lib.hid st2
  replace hstep := Lib.hid hstep
  replace hrest := Lib.hid hrest
  replace hquot := Lib.hid hquot
  cases sa : decide (a < 0) <;> cases sb : decide (b < 0)
  all_goals
    rw [sa, sb] at hfl
    have da := sa
    have db := sb
    simp only [decide_eq_true_eq, decide_eq_false_iff_not] at da db
    first
      | (have ex : IntKind.u64.wrap (-IntKind.u64.wrap a) = X := by
           (rw [IntKind.wrap_u64, IntKind.wrap_u64]; omega))
      | (have ex : IntKind.u64.wrap a = X := by
           (rw [IntKind.wrap_u64]; omega))
    first
      | (have ey : IntKind.u64.wrap (-IntKind.u64.wrap b) = Y := by
           (rw [IntKind.wrap_u64, IntKind.wrap_u64]; omega))
      | (have ey : IntKind.u64.wrap b = Y := by
           (rw [IntKind.wrap_u64]; omega))
    replace hX := Lib.hid hX
    replace hY := Lib.hid hY
    replace hfl := Lib.hid hfl
    clear ha hb h0 da db
    go_enter Tryd.func94, Tryd.ntmps94
    go_wp2
    go_loop [7, 8, 9] (fun q r i => ∃ (m : Nat) (k : Int), m ≤ 64 ∧ k + 1 = m ∧ i = .int .i64 k ∧ r = .int .u64 (Tw.rest X Y m) ∧ q = .int .u64 (Tw.quot X Y m)) (fun _ _ i => (intOf i + 1).toNat)
    case atStart => exact ⟨64, _, by omega, by omega, rfl, by rw [st1.out], by rw [st2.out]⟩
    case round =>
      obtain ⟨m, k, hm, hk, rfl, rfl, rfl⟩ := hrel
      clear ex ey
      by_cases hneg : k < 0
      · obtain rfl : m = 0 := by omega
        obtain ⟨b0, b1⟩ := hrest.out 0
        obtain ⟨c0, c1⟩ := hquot.out 0
        have F := hfl.out
        clear hfl hr0 hq0
        generalize Tw.rest X Y 0 = R at *
        generalize Tw.quot X Y 0 = Q at *
        have F' := Lib.hid F
        clear F
        by_cases hz : R = 0
        · subst hz
          have F := F'.out
          simp at F
          have F2 := Lib.hid F
          clear F F'
          go_wp2
          go_ret
          exact ⟨by rw [F2.out]; first | rfl | (refine ret_int ?_; simp only [IntKind.wrap_u64, IntKind.wrap_i64, wrap64]; omega), rfl⟩
        · have hz2 : (R != 0) = true := by rw [bne_iff_ne]; exact hz
          have F := F'.out
          simp [hz] at F
          have F2 := Lib.hid F
          clear F F'
          go_wp2
          go_ret
          exact ⟨by rw [F2.out]; first | rfl | (refine ret_int ?_; simp only [IntKind.wrap_u64, IntKind.wrap_i64, wrap64]; omega), rfl⟩
      · obtain ⟨j, rfl⟩ : ∃ j : Nat, k = j := ⟨k.toNat, by omega⟩
        obtain rfl : m = j + 1 := by omega
        obtain ⟨R, hR⟩ : ∃ R : Int, R = Tw.rest X Y (j + 1) := ⟨_, rfl⟩
        obtain ⟨Q, hQ⟩ : ∃ Q : Int, Q = Tw.quot X Y (j + 1) := ⟨_, rfl⟩
        obtain ⟨b0, b1⟩ := hrest.out (j + 1)
        obtain ⟨c0, c1⟩ := hquot.out (j + 1)
        obtain ⟨e0, e1⟩ := hquot.out j
        obtain ⟨s1, s2⟩ := hstep.out j
        have hp : 0 ≤ X / 2 ^ j := Int.ediv_nonneg x0 (Int.le_of_lt (Tw.pow_pos' j))
        have hm2 : (X / 2 ^ j).tmod 2 = X / 2 ^ j % 2 := Int.tmod_eq_emod_of_nonneg hp
        have hpw : (2 : Int) ^ j ≤ 2 ^ 63 := Tw.pow_le' (by omega)
        have hpw0 := Tw.pow_pos' j
        obtain ⟨b, hb⟩ : ∃ b : Int, b = X / 2 ^ j % 2 := ⟨_, rfl⟩
        rw [← hR, ← hQ, ← hb] at s1 s2
        rw [← hR] at b0 b1 ⊢
        rw [← hQ] at c0 c1 ⊢
        obtain ⟨Z, hZ⟩ : ∃ Z : Int, Z = 2 * R + b := ⟨_, rfl⟩
        rw [← hZ] at s1 s2
        have ez : IntKind.u64.wrap (R * 2 + (X / 2 ^ j).tmod 2) = Z := by rw [hm2, ← hb]; rw [u64_in _ (by omega) (by omega)]; omega
        have hov : decide (9223372036854775808 ≤ R) = false := decide_eq_false (by omega)
        by_cases hc : Y ≤ Z
        · obtain ⟨t1, t2⟩ := s1 hc
          have es : IntKind.u64.wrap (Z - Y) = Tw.rest X Y j := by rw [t1]; exact u64_in _ (by omega) (by omega)
          have eq : IntKind.u64.wrap (Q + IntKind.u64.wrap (2 ^ j)) = Tw.quot X Y j := by
            rw [u64_in (2 ^ j) (by omega) (by omega), t2]; exact u64_in _ (by omega) (by omega)
          have dc : decide (Y ≤ Z) = true := decide_eq_true hc
          replace es := Lib.hid es
          replace eq := Lib.hid eq
          clear s1 s2 t1 t2 hm2 hpw hpw0 hb hR hQ hZ hc hp e0 e1
          go_wp2
          go_round
          case rel => exact ⟨j, _, by omega, by omega, rfl, by rw [es.out], by rw [eq.out]⟩
          case measure => simp [intOf]
        · obtain ⟨t1, t2⟩ := s2 (by omega)
          have dc : decide (Y ≤ Z) = false := decide_eq_false hc
          replace t1 := Lib.hid t1
          replace t2 := Lib.hid t2
          clear s1 s2 hm2 hpw hpw0 hb hR hQ hZ hc hp e0 e1
          go_wp2
          go_round
          case rel => exact ⟨j, _, by omega, by omega, rfl, by rw [t1.out], by rw [t2.out]⟩
          case measure => simp [intOf]

set_option maxHeartbeats 1000000 in
theorem raised_any (a : Int) (ha : I64 a) : ∀ (n : Nat) (b : Int) (w : World), b = n → I64 b →
    Calls Tryd.prog 95 #[.int .i64 a, .int .i64 b] w fun e w' => e = .returned (.int .i64 (M.pow a b)) ∧ w = w' := by
  intro n
  induction n using Nat.strongRecOn with
  | ind n ih =>
    intro b w hb hI
    by_cases h0 : b = 0
    · subst h0
      have hp : M.pow a 0 = 1 := by unfold M.pow; rw [show (0 : Int).toNat = 0 from rfl, Int.pow_zero]; exact wrap_id (by unfold I64; omega)
      replace hp := Lib.hid hp
      clear ih
      go_enter Tryd.func95, Tryd.ntmps95
      go_wp2
      go_ret
      exact ⟨by rw [hp.out]; rfl, rfl⟩
    · have hb0 : (b == 0) = false := by rw [beq_eq_false_iff_ne]; exact h0
      have hrec := fun w => ih (n / 2) (by omega) (b / 2) w (by omega) (by unfold I64 at *; omega)
      have hp : M.pow a b = wrap64 ((if b % 2 = 1 then a else 1) * (M.pow a (b / 2) * M.pow a (b / 2))) := by
        unfold M.pow
        have e : a ^ b.toNat = (if b % 2 = 1 then a else 1) * (a ^ (b / 2).toNat * a ^ (b / 2).toNat) := by
          rw [← Int.pow_add]
          split
          · rename_i ho
            rw [show b.toNat = ((b / 2).toNat + (b / 2).toNat) + 1 by omega, Int.pow_succ, Int.mul_comm]
          · rename_i ho
            rw [Int.one_mul]; congr 1; omega
        have e3 : wrap64 (wrap64 (a ^ (b / 2).toNat) * wrap64 (a ^ (b / 2).toNat)) = wrap64 (a ^ (b / 2).toNat * a ^ (b / 2).toNat) := by rw [wrap_mul_l, wrap_mul_r]
        rw [e, ← wrap_mul_r _ (wrap64 (a ^ (b / 2).toNat) * wrap64 (a ^ (b / 2).toNat)), e3, wrap_mul_r]
      generalize M.pow a (b / 2) = h at *
      have hb1 : 1 ≤ b := by omega
      have hbm : b ≤ 9223372036854775807 := hI.2
      replace hrec := Lib.hid hrec
      clear ih hb
      cases ho : (b % 2 == 1) with
      | true =>
        have ho' : b % 2 = 1 := by simpa using ho
        rw [if_pos ho'] at hp
        replace hp := Lib.hid hp
        clear ho'
        go_enter Tryd.func95, Tryd.ntmps95
        go_wp2_with fail
        refine (hrec.out w).mono ?_
        rintro e w' ⟨rfl, rfl⟩
        go_wp2
        go_ret
        exact ⟨by rw [hp.out]; refine ret_int ?_; rw [wrap_mul_l, Int.mul_comm], rfl⟩
      | false =>
        have ho' : ¬ b % 2 = 1 := by simpa using ho
        rw [if_neg ho', Int.one_mul] at hp
        replace hp := Lib.hid hp
        clear ho'
        go_enter Tryd.func95, Tryd.ntmps95
        go_wp2_with fail
        refine (hrec.out w).mono ?_
        rintro e w' ⟨rfl, rfl⟩
        go_wp2
        go_ret
        exact ⟨by rw [hp.out]; rfl, rfl⟩

/-- Both, or either. -/
def bitsN (p : Bool) (A B : Nat) : Nat := if p then A &&& B else A ||| B

theorem bitsN_test (p : Bool) (A B i : Nat) : (bitsN p A B).testBit i = ((A.testBit i && B.testBit i) || (!p && (A.testBit i || B.testBit i))) := by
  cases p
  · simp only [bitsN, Bool.false_eq_true, if_false, Nat.testBit_or]; cases A.testBit i <;> cases B.testBit i <;> rfl
  · simp only [bitsN, if_true, Nat.testBit_and]; cases A.testBit i <;> cases B.testBit i <;> rfl

theorem bitsN_lt (p : Bool) {A B : Nat} (hA : A < 2 ^ 64) (hB : B < 2 ^ 64) : bitsN p A B < 2 ^ 64 := by
  cases p
  · exact Nat.or_lt_two_pow hA hB
  · exact Nat.and_lt_two_pow A hB

set_option maxRecDepth 100000 in
theorem bits_bitsN (p : Bool) (a b : Int) (A B : Nat) (hA : (A : Int) = a % 18446744073709551616) (hB : (B : Int) = b % 18446744073709551616) :
    bits (if p then .and else .or) .i64 a b = wrap64 (bitsN p A B) := by
  have e1 : (BitVec.ofInt IntKind.i64.bits a).toNat = A := by rw [BitVec.toNat_ofInt]; simp only [IntKind.bits]; omega
  have e2 : (BitVec.ofInt IntKind.i64.bits b).toNat = B := by rw [BitVec.toNat_ofInt]; simp only [IntKind.bits]; omega
  cases p
  · simp only [Bool.false_eq_true, if_false, bits, bitsN]
    rw [IntKind.wrap_i64, BitVec.toNat_or, e1, e2, wrap64]
  · simp only [if_true, bits, bitsN]
    rw [IntKind.wrap_i64, BitVec.toNat_and, e1, e2, wrap64]

theorem bit_of (A i : Nat) : (((A : Int) / 2 ^ i).tmod 2 == 1) = A.testBit i := by
  rw [Nat.testBit_eq_decide_div_mod_eq]
  have : ((A : Int) / 2 ^ i) = ((A / 2 ^ i : Nat) : Int) := by simp
  rw [this, Int.tmod_eq_emod_of_nonneg (Int.natCast_nonneg _), Bool.eq_iff_iff]
  simp only [beq_iff_eq, decide_eq_true_eq]
  omega

set_option maxHeartbeats 2000000 in
theorem bitwise_any (p : Bool) (a b : Int) (w : World) (ha : I64 a) (hb : I64 b) :
    Calls Tryd.prog 104 #[.int .i64 a, .int .i64 b, .bool p] w fun e w' => e = .returned (.int .i64 (bits (if p then .and else .or) .i64 a b)) ∧ w = w' := by
  obtain ⟨A, hA⟩ : ∃ A : Nat, (A : Int) = a % 18446744073709551616 := ⟨(a % 18446744073709551616).toNat, by omega⟩
  obtain ⟨B, hB⟩ : ∃ B : Nat, (B : Int) = b % 18446744073709551616 := ⟨(b % 18446744073709551616).toNat, by omega⟩
  have hbits := bits_bitsN p a b A B hA hB
  have ea : IntKind.u64.wrap a = (A : Int) := by rw [IntKind.wrap_u64]; exact hA.symm
  have eb : IntKind.u64.wrap b = (B : Int) := by rw [IntKind.wrap_u64]; exact hB.symm
  have hlt := bitsN_lt p (A := A) (B := B) (by omega) (by omega)
  have htest := bitsN_test p A B
  have hhalf := Tw.bit_half (bitsN p A B)
  obtain ⟨G, hG⟩ : ∃ G : Nat, G = bitsN p A B := ⟨_, rfl⟩
  rw [← hG] at hbits hlt htest hhalf
  have hA1 : A < 18446744073709551616 := by omega
  have hB1 : B < 18446744073709551616 := by omega
  cases p
  all_goals
    simp only [if_true, Bool.false_eq_true, if_false] at hbits ⊢
    replace hbits := Lib.hid hbits
    replace htest := Lib.hid htest
    replace hhalf := Lib.hid hhalf
    have hlt' := Lib.hid hlt
    clear hG hlt hA hB ha hb
    go_enter Tryd.func104, Tryd.ntmps104
    go_wp2
    go_loop [7, 8] (fun o i => ∃ (m : Nat) (k : Int) (g : Nat), m ≤ 64 ∧ k + 1 = m ∧ i = .int .i64 k ∧ o = .int .u64 g ∧ g = G / 2 ^ m) (fun _ i => (intOf i + 1).toNat)
    case atStart => exact ⟨64, _, 0, by omega, by omega, rfl, rfl, (Nat.div_eq_of_lt hlt'.out).symm⟩
    case round =>
      obtain ⟨m, k, g, hm, hk, rfl, rfl, hg⟩ := hrel
      by_cases hneg : k < 0
      · obtain rfl : m = 0 := by omega
        rw [Nat.pow_zero, Nat.div_one] at hg
        subst hg
        clear ea eb
        go_wp2
        go_ret
        exact ⟨by rw [hbits.out]; rfl, rfl⟩
      · obtain ⟨j, rfl⟩ : ∃ j : Nat, k = j := ⟨k.toNat, by omega⟩
        obtain rfl : m = j + 1 := by omega
        have t1 := bit_of A j
        have t2 := bit_of B j
        have hh := hhalf.out j
        rw [← hg, htest.out j] at hh
        have hgl : g < 9223372036854775808 := by
          have h1 := hlt'.out
          rw [hg, Nat.div_lt_iff_lt_mul (Nat.pow_pos (by decide))]
          have : 2 ^ 1 ≤ 2 ^ (j + 1) := Nat.pow_le_pow_right (by decide) (by omega)
          omega
        cases sa : A.testBit j <;> cases sb : B.testBit j
        all_goals
          rw [sa] at t1
          rw [sb] at t2
          rw [sa, sb] at hh
          simp at hh
          replace hh := Lib.hid hh
          replace hg := Lib.hid hg
          have ew : IntKind.u64.wrap ((g : Int) * 2) = (g : Int) * 2 := u64_in _ (by omega) (by omega)
          have ew1 : IntKind.u64.wrap ((g : Int) * 2 + 1) = (g : Int) * 2 + 1 := u64_in _ (by omega) (by omega)
          go_wp2
          go_round
          case rel => exact ⟨j, _, G / 2 ^ j, by omega, by omega, rfl, by rw [hh.out]; congr 1; push_cast; omega, rfl⟩
          case measure => simp [intOf]

end Go.Proofs.YtcenhemlgapkeaaDoor
