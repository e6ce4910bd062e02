/- The walks of the laws CellRing, CellBits, CellPowers and CellSame: they return true at all numbers of 64 bits, and write nothing that was there. -/
import Derived.Test.YtldhklbpmfckcaaLwCellA
import Derived.Test.YtldhklbpmfckcaaWkOne
namespace Go.Proofs.Ytldhklbpmfckcaa
open Go.RowKit

/-! ### Bits: numbers of 64 bits as bit vectors -/
def U (x : BitVec 64) : Int := wrap64 (x.toNat : Int)
def B (n : Int) : BitVec 64 := BitVec.ofInt 64 n

theorem B_wrap (n : Int) : B (wrap64 n) = B n := by
  apply BitVec.eq_of_toNat_eq
  simp only [B, BitVec.toNat_ofInt]
  have : wrap64 n % ((2 ^ 64 : Nat) : Int) = n % ((2 ^ 64 : Nat) : Int) := wrap_mod n
  rw [this]

theorem B_U (x : BitVec 64) : B (U x) = x := by
  rw [U, B_wrap, B, BitVec.ofInt_natCast, BitVec.ofNat_toNat, BitVec.setWidth_eq]

theorem U_B (n : Int) : U (B n) = wrap64 n := by
  rw [U, wrap_iff, B, BitVec.toNat_ofInt, Int.toNat_of_nonneg (Int.emod_nonneg _ (by decide))]
  exact Int.emod_emod_of_dvd n (by decide)

theorem bits_and (a b : Int) : bits .and .i64 a b = U (B a &&& B b) := by simp only [bits, IntWalk.i64_left]; rfl
theorem bits_or (a b : Int) : bits .or .i64 a b = U (B a ||| B b) := by simp only [bits, IntWalk.i64_left]; rfl

theorem B_not (n : Int) : B (-1 - n) = ~~~ (B n) := by
  have h1 : BitVec.ofInt 64 (-1) = BitVec.allOnes 64 := by decide
  rw [B, Int.sub_eq_add_neg, BitVec.ofInt_add, h1, BitVec.ofInt_neg, ← BitVec.allOnes_sub_eq_not, BitVec.sub_eq_add_neg]
  rfl

theorem B_add (a b : Int) : B (a + b) = B a + B b := BitVec.ofInt_add a b

theorem add_and_or (x y : BitVec 64) : (x &&& y) + (x ||| y) = x + y := by
  have h1 : (x &&& y) + (y &&& ~~~x) = y := by
    rw [BitVec.add_eq_or_of_and_eq_zero _ _ (by ext i; simp only [BitVec.getElem_and, BitVec.getElem_not, BitVec.getElem_zero]; cases x[i] <;> cases y[i] <;> rfl)]
    ext i
    simp only [BitVec.getElem_or, BitVec.getElem_and, BitVec.getElem_not]
    cases x[i] <;> cases y[i] <;> rfl
  have h2 : x + (y &&& ~~~x) = x ||| y := by
    rw [BitVec.add_eq_or_of_and_eq_zero _ _ (by ext i; simp only [BitVec.getElem_and, BitVec.getElem_not, BitVec.getElem_zero]; cases x[i] <;> cases y[i] <;> rfl)]
    ext i
    simp only [BitVec.getElem_or, BitVec.getElem_and, BitVec.getElem_not]
    cases x[i] <;> cases y[i] <;> rfl
  rw [← h2, BitVec.add_comm (x &&& y), BitVec.add_assoc, BitVec.add_comm (y &&& ~~~x), h1]

theorem V14' {a b : Int} (ha : I64 a) (hb : I64 b) : V 14 a b = U (B a &&& B b) := by rw [V14 ha hb, bits_and]
theorem V15' {a b : Int} (ha : I64 a) (hb : I64 b) : V 15 a b = U (B a ||| B b) := by rw [V15 ha hb, bits_or]

set_option maxHeartbeats 4000000 in
theorem cellBits_walk (a b : Int) (w : World) (ha : I64 a) (hb : I64 b) :
    Calls Try.prog 9 #[.int .i64 a, .int .i64 b] w fun e w' => e = .returned (.bool true) ∧ Below w.heap.size w w' := by
  have n6 : I64 6 := I64_lit _ (by decide)
  have n3 : I64 3 := I64_lit _ (by decide)
  have m1 : I64 (-1) := I64_lit _ (by decide)
  have t0 : (V 14 6 3 != 2) = false := bne_false (by rw [V14 n6 n3]; decide +kernel)
  have A := I64_V 2 (-1) a
  have C := I64_V 2 (-1) b
  have P := I64_V 14 a b
  have Q := I64_V 15 a b
  have t1 : (V 14 (V 2 (-1) a) (V 2 (-1) b) != V 2 (-1) (V 15 a b)) = false := bne_false (by
    rw [V14' A C, V2 m1 Q, V2 m1 ha, V2 m1 hb, V15' ha hb, ← U_B (-1 - U _), B_not, B_U, B_wrap, B_wrap, B_not, B_not, BitVec.not_or])
  have t2 : (V 15 (V 2 (-1) a) (V 2 (-1) b) != V 2 (-1) (V 14 a b)) = false := bne_false (by
    rw [V15' A C, V2 m1 P, V2 m1 ha, V2 m1 hb, V14' ha hb, ← U_B (-1 - U _), B_not, B_U, B_wrap, B_wrap, B_not, B_not, BitVec.not_and])
  have t3 : (V 15 a (V 14 a b) != a) = false := bne_false (by
    rw [V15' ha P, V14' ha hb, B_U]
    have : B a ||| (B a &&& B b) = B a := by ext i; simp only [BitVec.getElem_or, BitVec.getElem_and]; cases (B a)[i] <;> cases (B b)[i] <;> rfl
    rw [this, U_B, wrap_id ha])
  have t4 : (V 14 a (V 15 a b) != a) = false := bne_false (by
    rw [V14' ha Q, V15' ha hb, B_U]
    have : B a &&& (B a ||| B b) = B a := by ext i; simp only [BitVec.getElem_or, BitVec.getElem_and]; cases (B a)[i] <;> cases (B b)[i] <;> rfl
    rw [this, U_B, wrap_id ha])
  have t5 : (V 14 a (V 2 (-1) a) != 0) = false := bne_false (by
    rw [V14' ha A, V2 m1 ha, B_wrap, B_not]
    have : B a &&& ~~~ (B a) = 0#64 := by ext i; simp
    rw [this]; decide +kernel)
  have t6 : (V 15 a (V 2 (-1) a) != -1) = false := bne_false (by
    rw [V15' ha A, V2 m1 ha, B_wrap, B_not]
    have : B a ||| ~~~ (B a) = BitVec.allOnes 64 := by ext i; simp
    rw [this]; decide +kernel)
  have t7 : (V 1 a b == V 1 (V 14 a b) (V 15 a b)) = true := beq_iff_eq.2 (by
    rw [V1 ha hb, V1 P Q, ← U_B (V 14 a b + _), B_add, V14' ha hb, V15' ha hb, B_U, B_U, add_and_or, ← B_add, U_B])
  replace ha := Lib.hid ha
  replace hb := Lib.hid hb
  go_enter Try.func9, Try.ntmps9
  go_wp2_with (go_at_call 23; refine (two_any _ _ _ _ (by first | exact ha.out | exact hb.out | exact I64_V _ _ _ | assumption) (by first | exact ha.out | exact hb.out | exact I64_V _ _ _ | assumption)).mono ?_; rintro e w' ⟨rfl, nd, rfl⟩)
  go_ret
  exact ⟨rfl, below_drewN (Below.refl _ _) _⟩

set_option maxHeartbeats 4000000 in
theorem cellRing_walk (a b c : Int) (w : World) (ha : I64 a) (hb : I64 b) (hc : I64 c) :
    Calls Try.prog 13 #[.int .i64 a, .int .i64 b, .int .i64 c] w fun e w' => e = .returned (.bool true) ∧ Below w.heap.size w w' := by
  have n2 : I64 2 := I64_lit _ (by decide)
  have n3 : I64 3 := I64_lit _ (by decide)
  have X : ∀ f a b, I64 (V f a b) := I64_V
  have N : I64 (wrap64 (-a)) := I64_wrap _
  have t0 : (V 1 2 3 != 5) = false := bne_false (by rw [V1 n2 n3]; decide +kernel)
  have t1 : (V 1 a b != V 1 b a) = false := bne_false (by rw [V1 ha hb, V1 hb ha, Int.add_comm])
  have t2 : (V 3 a b != V 3 b a) = false := bne_false (by rw [V3 ha hb, V3 hb ha, Int.mul_comm])
  have t3 : (V 1 (V 1 a b) c != V 1 a (V 1 b c)) = false := bne_false (by
    rw [V1 (X _ _ _) hc, V1 ha (X _ _ _), V1 ha hb, V1 hb hc, wrap_add_l, wrap_add_r, Int.add_assoc])
  have t4 : (V 3 (V 3 a b) c != V 3 a (V 3 b c)) = false := bne_false (by
    rw [V3 (X _ _ _) hc, V3 ha (X _ _ _), V3 ha hb, V3 hb hc, wrap_mul_l, wrap_mul_r, Int.mul_assoc])
  have t5 : (V 3 a (V 1 b c) != V 1 (V 3 a b) (V 3 a c)) = false := bne_false (by
    rw [V3 ha (X _ _ _), V1 (X _ _ _) (X _ _ _), V3 ha hb, V3 ha hc, V1 hb hc, wrap_mul_r, wrap_add_l, wrap_add_r, Int.mul_add])
  have t6 : (V 1 a (wrap64 (-a)) == 0) = true := beq_iff_eq.2 (by rw [V1 ha N, wrap_add_r, Int.add_right_neg]; decide +kernel)
  have t7 : (V 2 (V 1 a b) b == a) = true := beq_iff_eq.2 (by rw [V2 (X _ _ _) hb, V1 ha hb, wrap_sub_l, Int.add_sub_cancel, wrap_id ha])
  have t8 : (V 2 b a == V 1 b (wrap64 (-a))) = true := beq_iff_eq.2 (by rw [V2 hb ha, V1 hb N, wrap_add_r, Int.sub_eq_add_neg])
  replace ha := Lib.hid ha
  replace hb := Lib.hid hb
  replace hc := Lib.hid hc
  clear X
  go_enter Try.func13, Try.ntmps13
  go_wp2_with (first
    | (go_at_call 23; refine (two_any _ _ _ _ (by first | exact ha.out | exact hb.out | exact hc.out | exact I64_V _ _ _ | assumption) (by first | exact ha.out | exact hb.out | exact hc.out | exact I64_V _ _ _ | assumption)).mono ?_; rintro e w' ⟨rfl, nd, rfl⟩)
    | (go_at_call 25; refine (cellOne_any _ _ _).mono ?_; rintro e w' ⟨rfl, rfl⟩; rw [show M.one 2 a = .ok (wrap64 (-a)) from rfl]; dsimp only [resI]))
  go_ret
  exact ⟨rfl, below_drewN (Below.refl _ _) _⟩

theorem V16 {a b : Int} (ha : I64 a) (hb : I64 b) (h0 : 0 ≤ b) : V 16 a b = wrap64 (a ^ b.toNat) := V_ok ha hb (by simp [M.two, M.pow, Int.not_lt.2 h0])

set_option maxHeartbeats 4000000 in
theorem cellPowers_walk (a b m n : Int) (w : World) (ha : I64 a) (hb : I64 b) (hm : I64 m) (hn : I64 n) :
    Calls Try.prog 11 #[.int .i64 a, .int .i64 b, .int .i64 m, .int .i64 n] w fun e w' => e = .returned (.bool true) ∧ Below w.heap.size w w' := by
  have n4 : I64 4 := I64_lit _ (by decide)
  have n3 : I64 3 := I64_lit _ (by decide)
  have X : ∀ f a b, I64 (V f a b) := I64_V
  have t0 : (V 16 3 4 != 81) = false := bne_false (by rw [V16 n3 n4 (by decide)]; decide +kernel)
  by_cases hr : 0 ≤ m ∧ 0 ≤ n ∧ m ≤ 1099511627776 ∧ n ≤ 1099511627776
  · obtain ⟨m0, n0, m1, n1⟩ := hr
    have hmn : I64 (m + n) := by unfold I64; omega
    have t1 : (V 16 a (m + n) != V 3 (V 16 a m) (V 16 a n)) = false := bne_false (by
      rw [V16 ha hmn (by omega), V3 (X _ _ _) (X _ _ _), V16 ha hm m0, V16 ha hn n0, wrap_mul_l, wrap_mul_r, ← Int.pow_add]
      congr 2; omega)
    have t2 : (V 16 (V 3 a b) m != V 3 (V 16 a m) (V 16 b m)) = false := bne_false (by
      rw [V16 (X _ _ _) hm m0, V3 (X _ _ _) (X _ _ _), V16 ha hm m0, V16 hb hm m0, V3 ha hb, wrap_pow, wrap_mul_l, wrap_mul_r, Int.mul_pow])
    by_cases hs : m ≤ 1048576 ∧ n ≤ 1048576
    · obtain ⟨m2, n2⟩ := hs
      have h1 : m * n ≤ 1048576 * 1048576 := Int.mul_le_mul m2 n2 n0 (by omega)
      have h0 : 0 ≤ m * n := Int.mul_nonneg m0 n0
      have hp : I64 (m * n) := by unfold I64; omega
      have t3 : (V 16 (V 16 a m) n == V 16 a (m * n)) = true := beq_iff_eq.2 (by
        rw [V16 (X _ _ _) hn n0, V16 ha hp h0, V16 ha hm m0, wrap_pow, ← Int.pow_mul]
        congr 2
        obtain ⟨p, rfl⟩ := Int.eq_ofNat_of_zero_le m0
        obtain ⟨q, rfl⟩ := Int.eq_ofNat_of_zero_le n0
        rw [← Int.natCast_mul, Int.toNat_natCast, Int.toNat_natCast, Int.toNat_natCast])
      replace ha := Lib.hid ha
      replace hb := Lib.hid hb
      replace hm := Lib.hid hm
      replace hn := Lib.hid hn
      clear X
      go_enter Try.func11, Try.ntmps11
      go_wp2_with (go_at_call 23; refine (two_any _ _ _ _ (by first | exact ha.out | exact hb.out | exact I64_V _ _ _ | assumption) (by first | exact ha.out | exact hb.out | exact hm.out | exact hn.out | exact I64_V _ _ _ | assumption)).mono ?_; rintro e w' ⟨rfl, nd, rfl⟩)
      go_ret
      exact ⟨rfl, below_drewN (Below.refl _ _) _⟩
    · replace ha := Lib.hid ha
      replace hb := Lib.hid hb
      replace hm := Lib.hid hm
      replace hn := Lib.hid hn
      clear X
      go_enter Try.func11, Try.ntmps11
      by_cases m2 : 1048576 < m
      · go_wp2_with (go_at_call 23; refine (two_any _ _ _ _ (by first | exact ha.out | exact hb.out | exact I64_V _ _ _ | assumption) (by first | exact ha.out | exact hb.out | exact hm.out | exact hn.out | exact I64_V _ _ _ | assumption)).mono ?_; rintro e w' ⟨rfl, nd, rfl⟩)
        go_ret
        exact ⟨rfl, below_drewN (Below.refl _ _) _⟩
      · have n2 : 1048576 < n := by omega
        go_wp2_with (go_at_call 23; refine (two_any _ _ _ _ (by first | exact ha.out | exact hb.out | exact I64_V _ _ _ | assumption) (by first | exact ha.out | exact hb.out | exact hm.out | exact hn.out | exact I64_V _ _ _ | assumption)).mono ?_; rintro e w' ⟨rfl, nd, rfl⟩)
        go_ret
        exact ⟨rfl, below_drewN (Below.refl _ _) _⟩
  · clear X ha hb hm hn
    by_cases m0 : m < 0
    · go_enter Try.func11, Try.ntmps11
      go_wp2_with (go_at_call 23; refine (two_any _ _ _ _ (by assumption) (by assumption)).mono ?_; rintro e w' ⟨rfl, nd, rfl⟩)
      go_ret
      exact ⟨rfl, below_drewN (Below.refl _ _) _⟩
    by_cases n0 : n < 0
    · go_enter Try.func11, Try.ntmps11
      go_wp2_with (go_at_call 23; refine (two_any _ _ _ _ (by assumption) (by assumption)).mono ?_; rintro e w' ⟨rfl, nd, rfl⟩)
      go_ret
      exact ⟨rfl, below_drewN (Below.refl _ _) _⟩
    by_cases m1 : 1099511627776 < m
    · go_enter Try.func11, Try.ntmps11
      go_wp2_with (go_at_call 23; refine (two_any _ _ _ _ (by assumption) (by assumption)).mono ?_; rintro e w' ⟨rfl, nd, rfl⟩)
      go_ret
      exact ⟨rfl, below_drewN (Below.refl _ _) _⟩
    have n1 : 1099511627776 < n := by omega
    go_enter Try.func11, Try.ntmps11
    go_wp2_with (go_at_call 23; refine (two_any _ _ _ _ (by assumption) (by assumption)).mono ?_; rintro e w' ⟨rfl, nd, rfl⟩)
    go_ret
    exact ⟨rfl, below_drewN (Below.refl _ _) _⟩

end Go.Proofs.Ytldhklbpmfckcaa
