/- The walks of the laws CellOrders and CellRing: they return true at all numbers of 64 bits, and write nothing that was there. -/
import Derived.Test.YtldhklbpmfckcaaTwo
namespace Go.Proofs.Ytldhklbpmfckcaa
open Go.RowKit

theorem V1 {a b : Int} (ha : I64 a) (hb : I64 b) : V 1 a b = wrap64 (a + b) := V_ok ha hb rfl
theorem V2 {a b : Int} (ha : I64 a) (hb : I64 b) : V 2 a b = wrap64 (a - b) := V_ok ha hb rfl
theorem V3 {a b : Int} (ha : I64 a) (hb : I64 b) : V 3 a b = wrap64 (a * b) := V_ok ha hb rfl
theorem V6 {a b : Int} (ha : I64 a) (hb : I64 b) : V 6 a b = if a < b then b else a := V_ok ha hb rfl
theorem V7 {a b : Int} (ha : I64 a) (hb : I64 b) : V 7 a b = if b < a then b else a := V_ok ha hb rfl
theorem V8 {a b : Int} (ha : I64 a) (hb : I64 b) : V 8 a b = if a = b then 1 else 0 := by rw [V_ok ha hb (n := M.bit (a == b)) rfl]; by_cases h : a = b <;> simp [M.bit, h]
theorem V9 {a b : Int} (ha : I64 a) (hb : I64 b) : V 9 a b = if a = b then 0 else 1 := by rw [V_ok ha hb (n := M.bit (a != b)) rfl]; by_cases h : a = b <;> simp [M.bit, h]
theorem V10 {a b : Int} (ha : I64 a) (hb : I64 b) : V 10 a b = if a < b then 1 else 0 := by rw [V_ok ha hb (n := M.bit (decide (a < b))) rfl]; by_cases h : a < b <;> simp [M.bit, h]
theorem V11 {a b : Int} (ha : I64 a) (hb : I64 b) : V 11 a b = if a ≤ b then 1 else 0 := by rw [V_ok ha hb (n := M.bit (decide (a ≤ b))) rfl]; by_cases h : a ≤ b <;> simp [M.bit, h]
theorem V12 {a b : Int} (ha : I64 a) (hb : I64 b) : V 12 a b = if b ≤ a then 1 else 0 := by rw [V_ok ha hb (n := M.bit (decide (b ≤ a))) rfl]; by_cases h : b ≤ a <;> simp [M.bit, h]
theorem V13 {a b : Int} (ha : I64 a) (hb : I64 b) : V 13 a b = if b < a then 1 else 0 := by rw [V_ok ha hb (n := M.bit (decide (b < a))) rfl]; by_cases h : b < a <;> simp [M.bit, h]
theorem V14 {a b : Int} (ha : I64 a) (hb : I64 b) : V 14 a b = bits .and .i64 a b := V_ok ha hb rfl
theorem V15 {a b : Int} (ha : I64 a) (hb : I64 b) : V 15 a b = bits .or .i64 a b := V_ok ha hb rfl

theorem bne_false {a b : Int} (h : a = b) : (a != b) = false := by rw [bne_eq_false_iff_eq]; exact h

theorem I64_lit (n : Int) (h : -9223372036854775808 ≤ n ∧ n ≤ 9223372036854775807) : I64 n := h

set_option maxHeartbeats 4000000 in
theorem cellOrders_walk (a b c : Int) (w : World) (ha : I64 a) (hb : I64 b) (hc : I64 c) :
    Calls Try.prog 10 #[.int .i64 a, .int .i64 b, .int .i64 c] w fun e w' => e = .returned (.bool true) ∧ Below w.heap.size w w' := by
  have n3 : I64 (-3) := I64_lit _ (by decide)
  have n2 : I64 2 := I64_lit _ (by decide)
  have t0 : (V 6 (-3) 2 != 2) = false := bne_false (by rw [V6 n3 n2]; rfl)
  have t1 : (wrap64 (wrap64 (V 10 a b + V 8 a b) + V 13 a b) != 1) = false := bne_false (by
    rw [V10 ha hb, V8 ha hb, V13 ha hb, wrap_add_l]
    exact (congrArg wrap64 (show _ = (1 : Int) by split <;> split <;> split <;> omega)).trans (wrap_id (I64_lit _ (by decide))))
  have t2 : (V 11 a b != wrap64 (1 - V 13 a b)) = false := bne_false (by
    rw [V11 ha hb, V13 ha hb, wrap_id (by unfold I64; split <;> omega)]; split <;> split <;> omega)
  have t3 : (V 12 a b != wrap64 (1 - V 10 a b)) = false := bne_false (by
    rw [V12 ha hb, V10 ha hb, wrap_id (by unfold I64; split <;> omega)]; split <;> split <;> omega)
  have t4 : (V 9 a b != wrap64 (1 - V 8 a b)) = false := bne_false (by
    rw [V9 ha hb, V8 ha hb, wrap_id (by unfold I64; split <;> omega)]; split <;> omega)
  have X := I64_V 6 a b
  have Y := I64_V 7 a b
  have t5 : (V 8 (V 6 a b) b != V 11 a b) = false := bne_false (by rw [V8 X hb, V11 ha hb, V6 ha hb]; split <;> split <;> split <;> omega)
  have t6 : (V 8 (V 7 a b) a != V 11 a b) = false := bne_false (by rw [V8 Y ha, V11 ha hb, V7 ha hb]; split <;> split <;> split <;> omega)
  have t7 : (V 6 a b != V 6 b a) = false := bne_false (by rw [V6 ha hb, V6 hb ha]; split <;> split <;> omega)
  have t8 : (V 7 a b != V 7 b a) = false := bne_false (by rw [V7 ha hb, V7 hb ha]; split <;> split <;> omega)
  have t9 : (V 6 (V 6 a b) c != V 6 a (V 6 b c)) = false := bne_false (by
    rw [V6 X hc, V6 ha (I64_V 6 b c), V6 ha hb, V6 hb hc]; repeat' split
    all_goals omega)
  have t10 : (V 7 (V 7 a b) c != V 7 a (V 7 b c)) = false := bne_false (by
    rw [V7 Y hc, V7 ha (I64_V 7 b c), V7 ha hb, V7 hb hc]; repeat' split
    all_goals omega)
  have t11 : (V 6 a (V 7 a b) != a) = false := bne_false (by rw [V6 ha Y, V7 ha hb]; repeat' split
                                                             all_goals omega)
  have t12 : (V 7 a (V 6 a b) != a) = false := bne_false (by rw [V7 ha X, V6 ha hb]; repeat' split
                                                             all_goals omega)
  have t13 : (V 6 a (V 7 b c) == V 7 (V 6 a b) (V 6 a c)) = true := beq_iff_eq.2 (by
    rw [V6 ha (I64_V 7 b c), V7 X (I64_V 6 a c), V7 hb hc, V6 ha hb, V6 ha hc]; repeat' split
    all_goals omega)
  replace ha := Lib.hid ha
  replace hb := Lib.hid hb
  replace hc := Lib.hid hc
  go_enter Try.func10, Try.ntmps10
  go_wp2_with (go_at_call 23; refine (two_any _ _ _ _ (by first | exact ha.out | exact hb.out | exact hc.out | exact I64_V _ _ _ | assumption) (by first | exact ha.out | exact hb.out | exact hc.out | exact I64_V _ _ _ | assumption)).mono ?_; rintro e w' ⟨rfl, nd, rfl⟩)
  go_ways
  go_ret
  exact ⟨rfl, below_drewN (Below.refl _ _) _⟩

end Go.Proofs.Ytldhklbpmfckcaa
