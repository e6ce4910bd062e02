/- Texts that lie in one file: what is plain, rows, boxes, squares, and what is known of a world. No condition. -/
import Derived.Test.YtcenhemlgapkeaaDoorBdR
import Derived.Test.YtcenhemlgapkeaaDoorWkCell
import Derived.Test.YtcenhemlgapkeaaDoorFits
import Derived.Test.YtcenhemlgapkeaaDoorBdZ
import Derived.Test.YtcenhemlgapkeaaDoorBdW
/- The document's Quotient, raised, bitwise, chosen and Two: what they tell is M.two. Condition: the numbers are of 64 bits. -/
namespace Go.Proofs.YtcenhemlgapkeaaDoor
open Go.RowKit

theorem u64_in (n : Int) (h0 : 0 ≤ n) (h1 : n < 18446744073709551616) : IntKind.u64.wrap n = n := by
  rw [IntKind.wrap_u64]; omega

/-- The quotient by the numbers without signs. -/
theorem floor_signs {a b : Int} (ha : I64 a) (h0 : b ≠ 0) :
    M.floor a b = wrap64 (if (decide (a < 0) != decide (b < 0)) = true then -((a.natAbs : Int) / (b.natAbs : Int) + if (a.natAbs : Int) % (b.natAbs : Int) = 0 then 0 else 1) else (a.natAbs : Int) / (b.natAbs : Int)) := by
  by_cases h1 : b = -1
  · subst h1
    have e : M.floor a (-1) = wrap64 (-a) := if_pos rfl
    rw [e]
    congr 1
    have n1 : ((-1 : Int).natAbs : Int) = 1 := rfl
    rw [n1, Int.ediv_one, Int.emod_one, if_pos rfl]
    have d : decide ((-1 : Int) < 0) = true := rfl
    rw [d]
    by_cases h : a < 0
    · rw [decide_eq_true h]; simp; omega
    · rw [decide_eq_false h]; simp; omega
  · rw [← Tw.signs a b h0 h1]
    have e : M.floor a b = if a.tmod b ≠ 0 ∧ (decide (a.tmod b < 0) != decide (b < 0)) = true then a.tdiv b - 1 else a.tdiv b := if_neg h1
    rw [← e]
    exact (wrap_id (I64_floor a b ha)).symm

set_option maxHeartbeats 2000000 in
theorem quotient_any (a b : Int) (w : World) (ha : I64 a) (hb : I64 b) (h0 : b ≠ 0) :
    Calls Tryd.prog 94 #[.int .i64 a, .int .i64 b] w fun e w' => e = .returned (.int .i64 (M.floor a b)) ∧ w = w' := by
  have hfl := floor_signs ha h0
  obtain ⟨X, hX⟩ : ∃ X : Int, X = a.natAbs := ⟨_, rfl⟩
  obtain ⟨Y, hY⟩ : ∃ Y : Int, Y = b.natAbs := ⟨_, rfl⟩
  rw [← hX, ← hY] at hfl
  unfold I64 at ha hb
  have x0 : 0 ≤ X := by omega
  have x1 : X ≤ 9223372036854775808 := by omega
  have y0 : 1 ≤ Y := by omega
  have y1 : Y ≤ 9223372036854775808 := by omega
  obtain ⟨st1, st2⟩ := Tw.start X Y x0 (by omega)
  have hstep := Tw.step X Y (by omega)
  have hrest := fun m => Tw.rest_bound (X := X) (Y := Y) (by omega) m
  have hquot := fun m => Tw.quot_bound (X := X) (Y := Y) x0 (by omega) m
  have hr0 : Tw.rest X Y 0 = X % Y := by unfold Tw.rest; rw [Int.pow_zero, Int.ediv_one]
  have hq0 : Tw.quot X Y 0 = X / Y := by unfold Tw.quot; rw [Int.pow_zero, Int.ediv_one, Int.mul_one]
  rw [← hr0, ← hq0] at hfl
  replace hr0 := Lib.hid hr0
  replace hq0 := Lib.hid hq0
  replace st1 := Lib.hid st1
  replace st2 := Lib.hid st2
  replace hstep := Lib.hid hstep
  replace hrest := Lib.hid hrest
  replace hquot := Lib.hid hquot
  cases sa : decide (a < 0) <;> cases sb : decide (b < 0)
  all_goals
    rw [sa, sb] at hfl
    have da := sa
    have db := sb
    simp only [decide_eq_true_eq, decide_eq_false_iff_not] at da db
    first
      | (have ex : IntKind.u64.wrap (-IntKind.u64.wrap a) = X := by
           (rw [IntKind.wrap_u64, IntKind.wrap_u64]; omega))
      | (have ex : IntKind.u64.wrap a = X := by
           (rw [IntKind.wrap_u64]; omega))
    first
      | (have ey : IntKind.u64.wrap (-IntKind.u64.wrap b) = Y := by
           (rw [IntKind.wrap_u64, IntKind.wrap_u64]; omega))
      | (have ey : IntKind.u64.wrap b = Y := by
           (rw [IntKind.wrap_u64]; omega))
    replace hX := Lib.hid hX
    replace hY := Lib.hid hY
    replace hfl := Lib.hid hfl
    clear ha hb h0 da db
    go_enter Tryd.func94, Tryd.ntmps94
    go_wp2
    go_loop [7, 8, 9] (fun q r i => ∃ (m : Nat) (k : Int), m ≤ 64 ∧ k + 1 = m ∧ i = .int .i64 k ∧ r = .int .u64 (Tw.rest X Y m) ∧ q = .int .u64 (Tw.quot X Y m)) (fun _ _ i => (intOf i + 1).toNat)
    case atStart => exact ⟨64, _, by omega, by omega, rfl, by rw [st1.out], by rw [st2.out]⟩
    case round =>
      obtain ⟨m, k, hm, hk, rfl, rfl, rfl⟩ := hrel
      clear ex ey
      by_cases hneg : k < 0
      · obtain rfl : m = 0 := by omega
        obtain ⟨b0, b1⟩ := hrest.out 0
        obtain ⟨c0, c1⟩ := hquot.out 0
        have F := hfl.out
        clear hfl hr0 hq0
        generalize Tw.rest X Y 0 = R at *
        generalize Tw.quot X Y 0 = Q at *
        have F' := Lib.hid F
        clear F
        by_cases hz : R = 0
        · subst hz
          have F := F'.out
          simp at F
          have F2 := Lib.hid F
          clear F F'
          go_wp2
          go_ret
          exact ⟨by rw [F2.out]; first | rfl | (refine ret_int ?_; simp only [IntKind.wrap_u64, IntKind.wrap_i64, wrap64]; omega), rfl⟩
        · have hz2 : (R != 0) = true := by rw [bne_iff_ne]; exact hz
          have F := F'.out
          simp [hz] at F
          have F2 := Lib.hid F
          clear F F'
          go_wp2
          go_ret
          exact ⟨by rw [F2.out]; first | rfl | (refine ret_int ?_; simp only [IntKind.wrap_u64, IntKind.wrap_i64, wrap64]; omega), rfl⟩
      · obtain ⟨j, rfl⟩ : ∃ j : Nat, k = j := ⟨k.toNat, by omega⟩
        obtain rfl : m = j + 1 := by omega
        obtain ⟨R, hR⟩ : ∃ R : Int, R = Tw.rest X Y (j + 1) := ⟨_, rfl⟩
        obtain ⟨Q, hQ⟩ : ∃ Q : Int, Q = Tw.quot X Y (j + 1) := ⟨_, rfl⟩
        obtain ⟨b0, b1⟩ := hrest.out (j + 1)
        obtain ⟨c0, c1⟩ := hquot.out (j + 1)
        obtain ⟨e0, e1⟩ := hquot.out j
        obtain ⟨s1, s2⟩ := hstep.out j
        have hp : 0 ≤ X / 2 ^ j := Int.ediv_nonneg x0 (Int.le_of_lt (Tw.pow_pos' j))
        have hm2 : (X / 2 ^ j).tmod 2 = X / 2 ^ j % 2 := Int.tmod_eq_emod_of_nonneg hp
        have hpw : (2 : Int) ^ j ≤ 2 ^ 63 := Tw.pow_le' (by omega)
        have hpw0 := Tw.pow_pos' j
        obtain ⟨b, hb⟩ : ∃ b : Int, b = X / 2 ^ j % 2 := ⟨_, rfl⟩
        rw [← hR, ← hQ, ← hb] at s1 s2
        rw [← hR] at b0 b1 ⊢
        rw [← hQ] at c0 c1 ⊢
        obtain ⟨Z, hZ⟩ : ∃ Z : Int, Z = 2 * R + b := ⟨_, rfl⟩
        rw [← hZ] at s1 s2
        have ez : IntKind.u64.wrap (R * 2 + (X / 2 ^ j).tmod 2) = Z := by rw [hm2, ← hb]; rw [u64_in _ (by omega) (by omega)]; omega
        have hov : decide (9223372036854775808 ≤ R) = false := decide_eq_false (by omega)
        by_cases hc : Y ≤ Z
        · obtain ⟨t1, t2⟩ := s1 hc
          have es : IntKind.u64.wrap (Z - Y) = Tw.rest X Y j := by rw [t1]; exact u64_in _ (by omega) (by omega)
          have eq : IntKind.u64.wrap (Q + IntKind.u64.wrap (2 ^ j)) = Tw.quot X Y j := by
            rw [u64_in (2 ^ j) (by omega) (by omega), t2]; exact u64_in _ (by omega) (by omega)
          have dc : decide (Y ≤ Z) = true := decide_eq_true hc
          replace es := Lib.hid es
          replace eq := Lib.hid eq
          clear s1 s2 t1 t2 hm2 hpw hpw0 hb hR hQ hZ hc hp e0 e1
          go_wp2
          go_round
          case rel => exact ⟨j, _, by omega, by omega, rfl, by rw [es.out], by rw [eq.out]⟩
          case measure => simp [intOf]
        · obtain ⟨t1, t2⟩ := s2 (by omega)
          have dc : decide (Y ≤ Z) = false := decide_eq_false hc
          replace t1 := Lib.hid t1
          replace t2 := Lib.hid t2
          clear s1 s2 hm2 hpw hpw0 hb hR hQ hZ hc hp e0 e1
          go_wp2
          go_round
          case rel => exact ⟨j, _, by omega, by omega, rfl, by rw [t1.out], by rw [t2.out]⟩
          case measure => simp [intOf]

set_option maxHeartbeats 1000000 in
theorem raised_any (a : Int) (ha : I64 a) : ∀ (n : Nat) (b : Int) (w : World), b = n → I64 b →
    Calls Tryd.prog 95 #[.int .i64 a, .int .i64 b] w fun e w' => e = .returned (.int .i64 (M.pow a b)) ∧ w = w' := by
  intro n
  induction n using Nat.strongRecOn with
  | ind n ih =>
    intro b w hb hI
    by_cases h0 : b = 0
    · subst h0
      have hp : M.pow a 0 = 1 := by unfold M.pow; rw [show (0 : Int).toNat = 0 from rfl, Int.pow_zero]; exact wrap_id (by unfold I64; omega)
      replace hp := Lib.hid hp
      clear ih
      go_enter Tryd.func95, Tryd.ntmps95
      go_wp2
      go_ret
      exact ⟨by rw [hp.out]; rfl, rfl⟩
    · have hb0 : (b == 0) = false := by rw [beq_eq_false_iff_ne]; exact h0
      have hrec := fun w => ih (n / 2) (by omega) (b / 2) w (by omega) (by unfold I64 at *; omega)
      have hp : M.pow a b = wrap64 ((if b % 2 = 1 then a else 1) * (M.pow a (b / 2) * M.pow a (b / 2))) := by
        unfold M.pow
        have e : a ^ b.toNat = (if b % 2 = 1 then a else 1) * (a ^ (b / 2).toNat * a ^ (b / 2).toNat) := by
          rw [← Int.pow_add]
          split
          · rename_i ho
            rw [show b.toNat = ((b / 2).toNat + (b / 2).toNat) + 1 by omega, Int.pow_succ, Int.mul_comm]
          · rename_i ho
            rw [Int.one_mul]; congr 1; omega
        have e3 : wrap64 (wrap64 (a ^ (b / 2).toNat) * wrap64 (a ^ (b / 2).toNat)) = wrap64 (a ^ (b / 2).toNat * a ^ (b / 2).toNat) := by rw [wrap_mul_l, wrap_mul_r]
        rw [e, ← wrap_mul_r _ (wrap64 (a ^ (b / 2).toNat) * wrap64 (a ^ (b / 2).toNat)), e3, wrap_mul_r]
      generalize M.pow a (b / 2) = h at *
      have hb1 : 1 ≤ b := by omega
      have hbm : b ≤ 9223372036854775807 := hI.2
      replace hrec := Lib.hid hrec
      clear ih hb
      cases ho : (b % 2 == 1) with
      | true =>
        have ho' : b % 2 = 1 := by simpa using ho
        rw [if_pos ho'] at hp
        replace hp := Lib.hid hp
        clear ho'
        go_enter Tryd.func95, Tryd.ntmps95
        go_wp2_with fail
        refine (hrec.out w).mono ?_
        rintro e w' ⟨rfl, rfl⟩
        go_wp2
        go_ret
        exact ⟨by rw [hp.out]; refine ret_int ?_; rw [wrap_mul_l, Int.mul_comm], rfl⟩
      | false =>
        have ho' : ¬ b % 2 = 1 := by simpa using ho
        rw [if_neg ho', Int.one_mul] at hp
        replace hp := Lib.hid hp
        clear ho'
        go_enter Tryd.func95, Tryd.ntmps95
        go_wp2_with fail
        refine (hrec.out w).mono ?_
        rintro e w' ⟨rfl, rfl⟩
        go_wp2
        go_ret
        exact ⟨by rw [hp.out]; rfl, rfl⟩

/-- Both, or either. -/
def bitsN (p : Bool) (A B : Nat) : Nat := if p then A &&& B else A ||| B

theorem bitsN_test (p : Bool) (A B i : Nat) : (bitsN p A B).testBit i = ((A.testBit i && B.testBit i) || (!p && (A.testBit i || B.testBit i))) := by
  cases p
  · simp only [bitsN, Bool.false_eq_true, if_false, Nat.testBit_or]; cases A.testBit i <;> cases B.testBit i <;> rfl
  · simp only [bitsN, if_true, Nat.testBit_and]; cases A.testBit i <;> cases B.testBit i <;> rfl

theorem bitsN_lt (p : Bool) {A B : Nat} (hA : A < 2 ^ 64) (hB : B < 2 ^ 64) : bitsN p A B < 2 ^ 64 := by
  cases p
  · exact Nat.or_lt_two_pow hA hB
  · exact Nat.and_lt_two_pow A hB

set_option maxRecDepth 100000 in
theorem bits_bitsN (p : Bool) (a b : Int) (A B : Nat) (hA : (A : Int) = a % 18446744073709551616) (hB : (B : Int) = b % 18446744073709551616) :
    bits (if p then .and else .or) .i64 a b = wrap64 (bitsN p A B) := by
  have e1 : (BitVec.ofInt IntKind.i64.bits a).toNat = A := by rw [BitVec.toNat_ofInt]; simp only [IntKind.bits]; omega
  have e2 : (BitVec.ofInt IntKind.i64.bits b).toNat = B := by rw [BitVec.toNat_ofInt]; simp only [IntKind.bits]; omega
  cases p
  · simp only [Bool.false_eq_true, if_false, bits, bitsN]
    rw [IntKind.wrap_i64, BitVec.toNat_or, e1, e2, wrap64]
  · simp only [if_true, bits, bitsN]
    rw [IntKind.wrap_i64, BitVec.toNat_and, e1, e2, wrap64]

theorem bit_of (A i : Nat) : (((A : Int) / 2 ^ i).tmod 2 == 1) = A.testBit i := by
  rw [Nat.testBit_eq_decide_div_mod_eq]
  have : ((A : Int) / 2 ^ i) = ((A / 2 ^ i : Nat) : Int) := by simp
  rw [this, Int.tmod_eq_emod_of_nonneg (Int.natCast_nonneg _), Bool.eq_iff_iff]
  simp only [beq_iff_eq, decide_eq_true_eq]
  omega

set_option maxHeartbeats 2000000 in
theorem bitwise_any (p : Bool) (a b : Int) (w : World) (ha : I64 a) (hb : I64 b) :
    Calls Tryd.prog 104 #[.int .i64 a, .int .i64 b, .bool p] w fun e w' => e = .returned (.int .i64 (bits (if p then .and else .or) .i64 a b)) ∧ w = w' := by
  obtain ⟨A, hA⟩ : ∃ A : Nat, (A : Int) = a % 18446744073709551616 := ⟨(a % 18446744073709551616).toNat, by omega⟩
  obtain ⟨B, hB⟩ : ∃ B : Nat, (B : Int) = b % 18446744073709551616 := ⟨(b % 18446744073709551616).toNat, by omega⟩
  have hbits := bits_bitsN p a b A B hA hB
  have ea : IntKind.u64.wrap a = (A : Int) := by rw [IntKind.wrap_u64]; exact hA.symm
  have eb : IntKind.u64.wrap b = (B : Int) := by rw [IntKind.wrap_u64]; exact hB.symm
  have hlt := bitsN_lt p (A := A) (B := B) (by omega) (by omega)
  have htest := bitsN_test p A B
  have hhalf := Tw.bit_half (bitsN p A B)
  obtain ⟨G, hG⟩ : ∃ G : Nat, G = bitsN p A B := ⟨_, rfl⟩
  rw [← hG] at hbits hlt htest hhalf
  have hA1 : A < 18446744073709551616 := by omega
  have hB1 : B < 18446744073709551616 := by omega
  cases p
  all_goals
    simp only [if_true, Bool.false_eq_true, if_false] at hbits ⊢
    replace hbits := Lib.hid hbits
    replace htest := Lib.hid htest
    replace hhalf := Lib.hid hhalf
    have hlt' := Lib.hid hlt
    clear hG hlt hA hB ha hb
    go_enter Tryd.func104, Tryd.ntmps104
    go_wp2
    go_loop [7, 8] (fun o i => ∃ (m : Nat) (k : Int) (g : Nat), m ≤ 64 ∧ k + 1 = m ∧ i = .int .i64 k ∧ o = .int .u64 g ∧ g = G / 2 ^ m) (fun _ i => (intOf i + 1).toNat)
    case atStart => exact ⟨64, _, 0, by omega, by omega, rfl, rfl, (Nat.div_eq_of_lt hlt'.out).symm⟩
    case round =>
      obtain ⟨m, k, g, hm, hk, rfl, rfl, hg⟩ := hrel
      by_cases hneg : k < 0
      · obtain rfl : m = 0 := by omega
        rw [Nat.pow_zero, Nat.div_one] at hg
        subst hg
        clear ea eb
        go_wp2
        go_ret
        exact ⟨by rw [hbits.out]; rfl, rfl⟩
      · obtain ⟨j, rfl⟩ : ∃ j : Nat, k = j := ⟨k.toNat, by omega⟩
        obtain rfl : m = j + 1 := by omega
        have t1 := bit_of A j
        have t2 := bit_of B j
        have hh := hhalf.out j
        rw [← hg, htest.out j] at hh
        have hgl : g < 9223372036854775808 := by
          have h1 := hlt'.out
          rw [hg, Nat.div_lt_iff_lt_mul (Nat.pow_pos (by decide))]
          have : 2 ^ 1 ≤ 2 ^ (j + 1) := Nat.pow_le_pow_right (by decide) (by omega)
          omega
        cases sa : A.testBit j <;> cases sb : B.testBit j
        all_goals
          rw [sa] at t1
          rw [sb] at t2
          rw [sa, sb] at hh
          simp at hh
          replace hh := Lib.hid hh
          replace hg := Lib.hid hg
          have ew : IntKind.u64.wrap ((g : Int) * 2) = (g : Int) * 2 := u64_in _ (by omega) (by omega)
          have ew1 : IntKind.u64.wrap ((g : Int) * 2 + 1) = (g : Int) * 2 + 1 := u64_in _ (by omega) (by omega)
          go_wp2
          go_round
          case rel => exact ⟨j, _, G / 2 ^ j, by omega, by omega, rfl, by rw [hh.out]; congr 1; push_cast; omega, rfl⟩
          case measure => simp [intOf]

end Go.Proofs.YtcenhemlgapkeaaDoor

/- The document's truth, chosen and Two: what they tell is M.two. Condition: the numbers are of 64 bits. -/
namespace Go.Proofs.YtcenhemlgapkeaaDoor
open Go.RowKit

set_option maxHeartbeats 400000 in
theorem truth_any (p : Bool) (w : World) : Calls Tryd.prog 84 #[.bool p] w fun e w' => e = .returned (.int .i64 (M.bit p)) ∧ w = w' := by
  cases p
  all_goals
    go_enter Tryd.func84, Tryd.ntmps84
    go_wp2
    go_ret
    exact ⟨rfl, rfl⟩

theorem two_val {f a b n : Int} (h : M.two f a b = .ok n) : (match M.two f a b with | .ok n => n | .error _ => 0) = n := by rw [h]

set_option maxHeartbeats 4000000 in
theorem chosen_any (f a b n : Int) (w : World) (ha : I64 a) (hb : I64 b) (hf : 6 ≤ f ∧ f ≤ 15) (hn : M.two f a b = .ok n) :
    Calls Tryd.prog 96 #[.int .i64 f, .int .i64 a, .int .i64 b] w fun e w' => e = .returned (.int .i64 n) ∧ w = w' := by
  have hs : f = 6 ∨ f = 7 ∨ f = 8 ∨ f = 9 ∨ f = 10 ∨ f = 11 ∨ f = 12 ∨ f = 13 ∨ f = 14 ∨ f = 15 := by omega
  clear hf
  rcases hs with rfl | rfl | rfl | rfl | rfl | rfl | rfl | rfl | rfl | rfl
  · have hv : n = if a < b then b else a := (Except.ok.inj hn).symm
    clear hn
    by_cases h : a < b
    · rw [if_pos h] at hv
      subst hv
      go_enter Tryd.func96, Tryd.ntmps96
      go_wp2
      go_ret
      exact ⟨rfl, rfl⟩
    · rw [if_neg h] at hv
      subst hv
      go_enter Tryd.func96, Tryd.ntmps96
      go_wp2
      go_ret
      exact ⟨rfl, rfl⟩
  · have hv : n = if b < a then b else a := (Except.ok.inj hn).symm
    clear hn
    by_cases h : a < b
    · rw [if_neg (by omega)] at hv
      subst hv
      go_enter Tryd.func96, Tryd.ntmps96
      go_wp2
      go_ret
      exact ⟨rfl, rfl⟩
    · have hv2 : n = b := by rw [hv]; split <;> omega
      clear hv
      subst hv2
      go_enter Tryd.func96, Tryd.ntmps96
      go_wp2
      go_ret
      exact ⟨rfl, rfl⟩
  · have hv : n = M.bit (a == b) := (Except.ok.inj hn).symm
    clear hn
    subst hv
    go_enter Tryd.func96, Tryd.ntmps96
    go_wp2_with (go_at_call 84; refine (truth_any _ _).mono ?_; rintro e w' ⟨rfl, rfl⟩)
    go_ret
    exact ⟨rfl, rfl⟩
  · have hv : n = M.bit (!(a == b)) := (Except.ok.inj hn).symm
    clear hn
    subst hv
    go_enter Tryd.func96, Tryd.ntmps96
    go_wp2_with (go_at_call 84; refine (truth_any _ _).mono ?_; rintro e w' ⟨rfl, rfl⟩)
    go_ret
    exact ⟨rfl, rfl⟩
  · have hv : n = M.bit (decide (a < b)) := (Except.ok.inj hn).symm
    clear hn
    subst hv
    go_enter Tryd.func96, Tryd.ntmps96
    go_wp2_with (go_at_call 84; refine (truth_any _ _).mono ?_; rintro e w' ⟨rfl, rfl⟩)
    go_ret
    exact ⟨rfl, rfl⟩
  · have hv : n = M.bit (decide (a ≤ b)) := (Except.ok.inj hn).symm
    clear hn
    have key : decide (a ≤ b) = (decide (a < b) || (a == b)) := by
      rw [Bool.eq_iff_iff]; simp only [Bool.or_eq_true, decide_eq_true_eq, beq_iff_eq]; omega
    cases d1 : decide (a < b) <;> cases d2 : (a == b)
    all_goals
      rw [key, d1, d2] at hv
      subst hv
      clear key
      go_enter Tryd.func96, Tryd.ntmps96
      go_wp2_with (go_at_call 84; refine (truth_any _ _).mono ?_; rintro e w' ⟨rfl, rfl⟩)
      go_ret
      exact ⟨rfl, rfl⟩
  · have hv : n = M.bit (decide (b ≤ a)) := (Except.ok.inj hn).symm
    clear hn
    have key : decide (b ≤ a) = !decide (a < b) := by
      rw [Bool.eq_iff_iff]; simp only [Bool.not_eq_true', decide_eq_false_iff_not, decide_eq_true_eq]; omega
    cases d1 : decide (a < b)
    all_goals
      rw [key, d1] at hv
      subst hv
      clear key
      go_enter Tryd.func96, Tryd.ntmps96
      go_wp2_with (go_at_call 84; refine (truth_any _ _).mono ?_; rintro e w' ⟨rfl, rfl⟩)
      go_ret
      exact ⟨rfl, rfl⟩
  · have hv : n = M.bit (decide (b < a)) := (Except.ok.inj hn).symm
    clear hn
    have key : decide (b < a) = (!decide (a < b) && !(a == b)) := by
      rw [Bool.eq_iff_iff]; simp only [Bool.and_eq_true, Bool.not_eq_true', decide_eq_false_iff_not, decide_eq_true_eq, beq_eq_false_iff_ne]; omega
    cases d1 : decide (a < b) <;> cases d2 : (a == b)
    all_goals
      rw [key, d1, d2] at hv
      subst hv
      clear key
      go_enter Tryd.func96, Tryd.ntmps96
      go_wp2_with (go_at_call 84; refine (truth_any _ _).mono ?_; rintro e w' ⟨rfl, rfl⟩)
      go_ret
      exact ⟨rfl, rfl⟩
  · have hv : n = bits .and .i64 a b := (Except.ok.inj hn).symm
    clear hn
    subst hv
    go_enter Tryd.func96, Tryd.ntmps96
    go_wp2_with (go_at_call 104; refine (bitwise_any true _ _ _ ha hb).mono ?_; rintro e w' ⟨rfl, rfl⟩)
    go_ret
    exact ⟨rfl, rfl⟩
  · have hv : n = bits .or .i64 a b := (Except.ok.inj hn).symm
    clear hn
    subst hv
    go_enter Tryd.func96, Tryd.ntmps96
    go_wp2_with (go_at_call 104; refine (bitwise_any false _ _ _ ha hb).mono ?_; rintro e w' ⟨rfl, rfl⟩)
    go_ret
    exact ⟨rfl, rfl⟩

theorem two_out {f a b : Int} (h : ¬ (1 ≤ f ∧ f ≤ 16)) : M.two f a b = .error 1 := by
  unfold M.two
  rw [if_neg (by omega), if_neg (by omega), if_neg (by omega), if_neg (by omega), if_neg (by omega), if_neg (by omega), if_neg (by omega), if_neg (by omega), if_neg (by omega), if_neg (by omega), if_neg (by omega), if_neg (by omega), if_neg (by omega), if_neg (by omega), if_neg (by omega), if_neg (by omega)]

theorem two_chosen {f a b : Int} (h : 6 ≤ f ∧ f ≤ 15) : ∃ n, M.two f a b = .ok n := by
  have hs : f = 6 ∨ f = 7 ∨ f = 8 ∨ f = 9 ∨ f = 10 ∨ f = 11 ∨ f = 12 ∨ f = 13 ∨ f = 14 ∨ f = 15 := by omega
  rcases hs with rfl | rfl | rfl | rfl | rfl | rfl | rfl | rfl | rfl | rfl <;> exact ⟨_, rfl⟩

/-- Its errors are errors. -/
def Errs (r : Except Int Int) : Prop := ∀ e, r = .error e → e ≠ 0
theorem errs_ok (n : Int) : Errs (.ok n) := fun _ h => by cases h
theorem errs_error {n : Int} (h : n ≠ 0) : Errs (.error n) := fun _ e => by cases e; exact h
theorem errs_ite {c : Prop} [Decidable c] {x y : Except Int Int} (hx : Errs x) (hy : Errs y) : Errs (if c then x else y) := by split <;> assumption

theorem two_err {f a b e : Int} (h : M.two f a b = .error e) : e ≠ 0 := by
  have hf : Errs (M.two f a b) := by
    unfold M.two
    exact errs_ite (errs_ok _) (errs_ite (errs_ok _) (errs_ite (errs_ok _) (errs_ite (errs_ite (errs_error (by decide)) (errs_ok _))
      (errs_ite (errs_ite (errs_ok _) (errs_ok _)) (errs_ite (errs_ok _) (errs_ite (errs_ok _) (errs_ite (errs_ok _) (errs_ite (errs_ok _) (errs_ite (errs_ok _)
      (errs_ite (errs_ok _) (errs_ite (errs_ok _) (errs_ite (errs_ok _) (errs_ite (errs_ok _) (errs_ite (errs_ok _)
      (errs_ite (errs_ite (errs_error (by decide)) (errs_ok _)) (errs_error (by decide)))))))))))))))))
  exact hf e h

set_option maxHeartbeats 4000000 in
theorem refTwo_any (f a b : Int) (w : World) (ha : I64 a) (hb : I64 b) :
    Calls Tryd.prog 83 #[.int .i64 f, .int .i64 a, .int .i64 b] w fun e w' => e = .returned (refI (M.two f a b)) ∧ w = w' := by
  by_cases hr : 1 ≤ f ∧ f ≤ 16
  case neg =>
    have hf := Lib.hid (two_out (a := a) (b := b) hr)
    cases e1 : decide (f < 1) with
    | true =>
      clear hr
      go_enter Tryd.func83, Tryd.ntmps83
      go_wp2
      go_ret2
      exact ⟨by rw [hf.out]; rfl, rfl⟩
    | false =>
      have e2 : decide (16 < f) = true := by have := of_decide_eq_false e1; exact decide_eq_true (by omega)
      clear hr
      go_enter Tryd.func83, Tryd.ntmps83
      go_wp2
      go_ret2
      exact ⟨by rw [hf.out]; rfl, rfl⟩
  by_cases hc : 6 ≤ f ∧ f ≤ 15
  · obtain ⟨n, hn⟩ := two_chosen (a := a) (b := b) hc
    have hcall := Lib.hid (fun w => chosen_any f a b n w ha hb hc hn)
    have hn' := Lib.hid hn
    have d1 : decide (f < 1) = false := decide_eq_false (by omega)
    have d2 : decide (16 < f) = false := decide_eq_false (by omega)
    have e1 : (f == 1) = false := by rw [beq_eq_false_iff_ne]; omega
    have e2 : (f == 2) = false := by rw [beq_eq_false_iff_ne]; omega
    have e3 : (f == 3) = false := by rw [beq_eq_false_iff_ne]; omega
    have e4 : (f == 4) = false := by rw [beq_eq_false_iff_ne]; omega
    have e5 : (f == 5) = false := by rw [beq_eq_false_iff_ne]; omega
    have e16 : (f == 16) = false := by rw [beq_eq_false_iff_ne]; omega
    clear hn hc hr
    go_enter Tryd.func83, Tryd.ntmps83
    go_wp2_with (go_at_call 96; refine (hcall.out _).mono ?_; rintro e w' ⟨rfl, rfl⟩)
    go_ret2
    exact ⟨by rw [hn'.out]; rfl, rfl⟩
  have hs : f = 1 ∨ f = 2 ∨ f = 3 ∨ f = 4 ∨ f = 5 ∨ f = 16 := by omega
  clear hr hc
  rcases hs with rfl | rfl | rfl | rfl | rfl | rfl
  · go_enter Tryd.func83, Tryd.ntmps83
    go_wp2
    go_ret2
    exact ⟨rfl, rfl⟩
  · go_enter Tryd.func83, Tryd.ntmps83
    go_wp2
    go_ret2
    exact ⟨rfl, rfl⟩
  · go_enter Tryd.func83, Tryd.ntmps83
    go_wp2
    go_ret2
    exact ⟨rfl, rfl⟩
  · by_cases h0 : b = 0
    · subst h0
      go_enter Tryd.func83, Tryd.ntmps83
      go_wp2
      go_ret2
      exact ⟨rfl, rfl⟩
    · have e0 : (b == 0) = false := by simpa using h0
      have hf := Lib.hid (show M.two 4 a b = .ok (M.floor a b) by simp [M.two, h0])
      go_enter Tryd.func83, Tryd.ntmps83
      go_wp2_with (go_at_call 94; refine (quotient_any _ _ _ ha hb h0).mono ?_; rintro e w' ⟨rfl, rfl⟩)
      go_ret2
      exact ⟨by rw [hf.out]; rfl, rfl⟩
  · by_cases h0 : a = 0
    · subst h0
      go_enter Tryd.func83, Tryd.ntmps83
      go_wp2
      go_ret2
      exact ⟨rfl, rfl⟩
    · have e0 : (a == 0) = false := by simpa using h0
      have hf := Lib.hid (show M.two 5 a b = .ok (wrap64 (b - wrap64 (a * M.floor b a))) by simp [M.two, h0])
      go_enter Tryd.func83, Tryd.ntmps83
      go_wp2_with (go_at_call 94; refine (quotient_any _ _ _ hb ha h0).mono ?_; rintro e w' ⟨rfl, rfl⟩)
      go_ret2
      exact ⟨by rw [hf.out]; rfl, rfl⟩
  · by_cases h0 : b < 0
    · have hf := Lib.hid (show M.two 16 a b = .error 6 by simp [M.two, h0])
      go_enter Tryd.func83, Tryd.ntmps83
      go_wp2
      go_ret2
      exact ⟨by rw [hf.out]; rfl, rfl⟩
    · have hf := Lib.hid (show M.two 16 a b = .ok (M.pow a b) by simp [M.two, h0])
      have hcall := fun w => raised_any a ha b.toNat b w (by omega) hb
      replace hcall := Lib.hid hcall
      go_enter Tryd.func83, Tryd.ntmps83
      go_wp2_with (go_at_call 95; refine (hcall.out _).mono ?_; rintro e w' ⟨rfl, rfl⟩)
      go_ret2
      exact ⟨by rw [hf.out]; rfl, rfl⟩

end Go.Proofs.YtcenhemlgapkeaaDoor

/- The document's TwoCells and Compares: two arrays' cells at one place. Condition: ints of 64 bits. -/
namespace Go.Proofs.YtcenhemlgapkeaaDoor
open Go.RowKit

theorem refCompares_any (f : Int) (w : World) : Calls Tryd.prog 61 #[.int .i64 f] w fun e w' => e = .returned (.bool (M.cmp f)) ∧ w = w' := by
  by_cases h8 : f = 8
  · subst h8
    go_enter Tryd.func61, Tryd.ntmps61
    go_wp2
    go_ret
    exact ⟨rfl, rfl⟩
  · have e8 : (f == 8) = false := beq_eq_false_iff_ne.2 h8
    by_cases h9 : f = 9
    · subst h9
      go_enter Tryd.func61, Tryd.ntmps61
      go_wp2
      go_ret
      exact ⟨rfl, rfl⟩
    · have e9 : (f == 9) = false := beq_eq_false_iff_ne.2 h9
      have hc := Lib.hid (show M.cmp f = false by unfold M.cmp; rw [e8, e9]; rfl)
      replace h8 := Lib.hid h8
      replace h9 := Lib.hid h9
      go_enter Tryd.func61, Tryd.ntmps61
      go_wp2
      go_ret
      exact ⟨by rw [hc.out]; rfl, rfl⟩

/-- The result of a call of the document's that tells an int and an error's number, 0 beside an error. -/
theorem twoCells_any (f : Int) (c1 c2 : Bool) (a b : Int) (w : World) (ha : I64 a) (hb : I64 b) :
    Calls Tryd.prog 65 #[.int .i64 f, .bool c1, .int .i64 a, .bool c2, .int .i64 b] w fun e w' => e = .returned (refI (M.tw f c1 c2 a b)) ∧ w = w' := by
  by_cases hc : c1 = c2
  · subst hc
    have ht := Lib.hid (show M.tw f c1 c1 a b = M.two f a b from if_pos rfl)
    have t1 : (c1 == c1) = true := beq_self_eq_true c1
    have h2 := refTwo_any f a b w ha hb
    cases hr : M.two f a b with
    | ok v =>
      rw [hr] at h2 ht
      replace h2 := Lib.hid h2
      replace hr := Lib.hid hr
      go_enter Tryd.func65, Tryd.ntmps65
      go_wp2_with fail
      refine h2.out.mono ?_
      rintro e w' ⟨rfl, rfl⟩
      dsimp only [refI]
      go_wp2
      go_ret2
      exact ⟨by rw [ht.out]; rfl, rfl⟩
    | error v =>
      rw [hr] at h2 ht
      replace h2 := Lib.hid h2
      replace hr := Lib.hid hr
      go_enter Tryd.func65, Tryd.ntmps65
      go_wp2_with fail
      refine h2.out.mono ?_
      rintro e w' ⟨rfl, rfl⟩
      dsimp only [refI]
      go_wp2
      go_ret2
      exact ⟨by rw [ht.out]; rfl, rfl⟩
  · have t1 : (c1 == c2) = false := beq_eq_false_iff_ne.2 hc
    have ht := Lib.hid (show M.tw f c1 c2 a b = .ok (if f = 9 then 1 else 0) from if_neg hc)
    have htr := Lib.hid (truth_any (f == 9))
    replace hc := Lib.hid hc
    go_enter Tryd.func65, Tryd.ntmps65
    go_wp2_with fail
    refine (htr.out _).mono ?_
    rintro e w' ⟨rfl, rfl⟩
    go_wp2
    go_ret2
    refine ⟨?_, rfl⟩
    rw [ht.out]
    by_cases h9 : f = 9
    · subst h9; rfl
    · rw [if_neg h9, beq_eq_false_iff_ne.2 h9]; rfl

theorem tw_err {f : Int} {c1 c2 : Bool} {a b e : Int} (h : M.tw f c1 c2 a b = .error e) : e ≠ 0 := by
  unfold M.tw at h
  split at h
  · exact two_err h
  · cases h

end Go.Proofs.YtcenhemlgapkeaaDoor
