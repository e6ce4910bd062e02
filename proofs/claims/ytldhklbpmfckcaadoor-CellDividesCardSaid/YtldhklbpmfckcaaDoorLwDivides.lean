/- The walk of the law CellDivides: it returns true whatever the two numbers. Condition: the library's one variable is laid. -/
import Derived.Test.YtldhklbpmfckcaaDoorTwo
import Derived.Test.YtldhklbpmfckcaaDoorTold
namespace Go.Proofs.YtldhklbpmfckcaaDoor
open Go.RowKit

/-- Quotient and rest: by the rest, and where it lies. -/
theorem floor_rest {a b : Int} (ha : I64 a) (hb : I64 b) (h0 : b ≠ 0) :
    wrap64 (b * M.floor a b + wrap64 (a - wrap64 (b * M.floor a b))) = a ∧ (0 < b → 0 ≤ wrap64 (a - wrap64 (b * M.floor a b)) ∧ wrap64 (a - wrap64 (b * M.floor a b)) < b) ∧
    (b < 0 → wrap64 (a - wrap64 (b * M.floor a b)) ≤ 0 ∧ b < wrap64 (a - wrap64 (b * M.floor a b))) := by
  have e1 : wrap64 (b * M.floor a b + wrap64 (a - wrap64 (b * M.floor a b))) = a := by
    rw [wrap_add_r, ← wrap_add_l]
    have := wrap_id ha
    unfold wrap64 at *
    omega
  refine ⟨e1, ?_⟩
  unfold I64 at ha hb
  by_cases hm : b = -1
  · subst hm
    have : wrap64 (a - wrap64 (-1 * M.floor a (-1))) = 0 := by
      have : M.floor a (-1) = wrap64 (-a) := if_pos rfl
      rw [this, wrap_sub_r]
      unfold wrap64
      omega
    rw [this]
    exact ⟨fun h => by omega, fun _ => by omega⟩
  · have hd := Int.tmod_add_tdiv_mul a b
    have hlt : (a.tmod b).natAbs < b.natAbs := by rw [Int.natAbs_tmod]; exact Nat.mod_lt _ (by omega)
    have key : ∀ r, a - b * M.floor a b = r → I64 r → wrap64 (a - wrap64 (b * M.floor a b)) = r := fun r h hr => by rw [wrap_sub_r, h]; exact wrap_id hr
    by_cases hc : a.tmod b ≠ 0 ∧ (decide (a.tmod b < 0) != decide (b < 0)) = true
    · have hf : M.floor a b = a.tdiv b - 1 := by unfold M.floor; rw [if_neg hm, if_pos hc]
      have hr : a - b * M.floor a b = a.tmod b + b := by rw [hf, Int.mul_sub, Int.mul_comm b]; omega
      obtain ⟨c1, c2⟩ := hc
      have c3 : (a.tmod b < 0 ∧ 0 < b) ∨ (0 < a.tmod b ∧ b < 0) := by
        by_cases k1 : a.tmod b < 0 <;> by_cases k2 : b < 0 <;> simp [k1, k2] at c2 <;> omega
      rw [key _ hr (by unfold I64; omega)]
      exact ⟨fun h => by omega, fun h => by omega⟩
    · have hf : M.floor a b = a.tdiv b := by unfold M.floor; rw [if_neg hm, if_neg hc]
      have hr : a - b * M.floor a b = a.tmod b := by rw [hf, Int.mul_comm b]; omega
      have c3 : a.tmod b = 0 ∨ (a.tmod b < 0 ∧ b < 0) ∨ (0 < a.tmod b ∧ 0 < b) := by
        by_cases k0 : a.tmod b = 0
        · exact .inl k0
        · have c2 : ¬ (decide (a.tmod b < 0) != decide (b < 0)) = true := fun h => hc ⟨k0, h⟩
          by_cases k1 : a.tmod b < 0 <;> by_cases k2 : b < 0 <;> simp [k1, k2] at c2 <;> omega
      rw [key _ hr (by unfold I64; omega)]
      exact ⟨fun h => by omega, fun h => by omega⟩

theorem V4_ok {a b : Int} (h0 : b ≠ 0) : M.two 4 a b = .ok (M.floor a b) := by unfold M.two; simp [h0]

set_option maxHeartbeats 2000000 in
theorem cellDivides_walk (a b : Int) (w : World) (ha : I64 a) (hb : I64 b) (hg : Laid w) :
    Calls Tryd.prog 10 #[.int .i64 a, .int .i64 b] w fun e w' => e = .returned (.bool true) ∧ Below w.heap.size w w' := by
  have n3 : I64 3 := by unfold I64; decide
  have n7 : I64 (-7) := by unfold I64; decide
  have hfl : M.floor (-7) 3 = -3 := by decide +kernel
  have hfact : V 5 3 (-7) = 2 := V_ok n3 n7 (by unfold M.two; simp [hfl, wrap64])
  clear hfl
  have hcf := two_any 5 3 (-7) w n3 n7
  rw [hfact] at hcf
  replace hcf := Lib.hid hcf
  clear hfact n3 n7
  by_cases h0 : b = 0
  · subst h0
    have hc := fun w => cellTwo_any 4 a 0 w ha hb
    have hv : V 5 0 a = a := V_ok hb ha (by unfold M.two; simp)
    have hc2 := fun w => two_any 5 0 a w hb ha
    rw [hv] at hc2
    have he : M.two 4 a 0 = .error 6 := by unfold M.two; simp
    simp only [he] at hc
    replace hc := Lib.hid hc
    replace hc2 := Lib.hid hc2
    have haa : (a == a) = true := beq_self_eq_true a
    clear hv he ha hb
    go_enter Tryd.func10, Tryd.ntmps10
    go_wp2_with fail
    refine hcf.out.mono ?_
    rintro e w1 ⟨rfl, nd, rfl⟩
    go_wp2_with fail
    refine (hc.out _).mono ?_
    rintro e w2 ⟨rfl, nd2, rfl⟩
    dsimp only [resI]
    go_wp2_with fail
    refine (error_any 6 6 (w.drewN (nd + nd2)) hg).mono ?_
    rintro e w3 ⟨rfl, hb3⟩
    have hb4 : Below w.heap.size w w3 := ⟨hb3.os, hb3.tape, hb3.output, hb3.size, hb3.block⟩
    go_wp2_with fail
    refine (hc2.out _).mono ?_
    rintro e w4 ⟨rfl, nd4, rfl⟩
    go_wp2
    go_ret
    exact ⟨rfl, below_drewN hb4 _⟩
  · have hc := fun w => cellTwo_any 4 a b w ha hb
    rw [V4_ok h0] at hc
    have hvr : V 5 b a = wrap64 (a - wrap64 (b * M.floor a b)) := V_ok hb ha (by unfold M.two; simp [h0])
    have hc2 := fun w => two_any 5 b a w hb ha
    rw [hvr] at hc2
    obtain ⟨s1, s2, s3⟩ := floor_rest ha hb h0
    generalize M.floor a b = q at *
    have e0 : (b == 0) = false := by rw [beq_eq_false_iff_ne]; exact h0
    have e1 : (wrap64 (wrap64 (b * q) + wrap64 (a - wrap64 (b * q))) != a) = false := by rw [bne_eq_false_iff_eq, wrap_add_l]; exact s1
    generalize hrr : wrap64 (a - wrap64 (b * q)) = r at *
    replace hrr := Lib.hid hrr
    replace hc := Lib.hid hc
    replace hc2 := Lib.hid hc2
    by_cases hp : 0 < b
    · obtain ⟨k1, k2⟩ := s2 hp
      have d1 : decide (0 < b) = true := decide_eq_true hp
      have d2 : decide (0 ≤ r) = true := decide_eq_true k1
      have d3 : decide (r < b) = true := decide_eq_true k2
      clear s1 s2 s3 hvr ha hb h0 hp k1 k2
      go_enter Tryd.func10, Tryd.ntmps10
      go_wp2_with fail
      refine hcf.out.mono ?_
      rintro e w1 ⟨rfl, nd, rfl⟩
      go_wp2_with fail
      refine (hc.out _).mono ?_
      rintro e w2 ⟨rfl, nd2, rfl⟩
      dsimp only [resI]
      go_wp2_with fail
      refine (hc2.out _).mono ?_
      rintro e w4 ⟨rfl, nd4, rfl⟩
      go_wp2
      go_ret
      exact ⟨rfl, below_drewN (Below.refl _ w) _⟩
    · obtain ⟨k1, k2⟩ := s3 (by omega)
      have d1 : decide (0 < b) = false := decide_eq_false hp
      have d2 : decide (r ≤ 0) = true := decide_eq_true k1
      have d3 : decide (b < r) = true := decide_eq_true k2
      clear s1 s2 s3 hvr ha hb h0 hp k1 k2
      go_enter Tryd.func10, Tryd.ntmps10
      go_wp2_with fail
      refine hcf.out.mono ?_
      rintro e w1 ⟨rfl, nd, rfl⟩
      go_wp2_with fail
      refine (hc.out _).mono ?_
      rintro e w2 ⟨rfl, nd2, rfl⟩
      dsimp only [resI]
      go_wp2_with fail
      refine (hc2.out _).mono ?_
      rintro e w4 ⟨rfl, nd4, rfl⟩
      go_wp2
      go_ret
      exact ⟨rfl, below_drewN (Below.refl _ w) _⟩

end Go.Proofs.YtldhklbpmfckcaaDoor
