/- The walk of the law ShapeJoins: it returns true at all slices of ints, and writes nothing that was there. -/
import Derived.Test.YtldhklbpmfckcaaPlainShape
import Derived.Test.YtldhklbpmfckcaaWkPlace
import Derived.Test.YtldhklbpmfckcaaSame
namespace Go.Proofs.Ytldhklbpmfckcaa
open Go.RowKit

theorem fact_joins : M.place [2, 3, 4] [1, 2, 3] = .ok 23 := M.place_mk (n := 24) (M.count_mk (s := [2, 3, 4]) (by decide) (by decide) (by decide)) ⟨by decide, by decide, by decide, by decide, by decide, by decide, trivial⟩

set_option maxHeartbeats 2000000 in
theorem shapeJoins_walk (a0 : Option Addr) (s : List Int) (c0 : Nat) (a1 : Option Addr) (t : List Int) (c1 : Nat) (a2 : Option Addr) (at1 : List Int) (c2 : Nat) (a3 : Option Addr) (bt : List Int) (c3 : Nat) (w : World)
    (h0 : Row w a0 s) (l0 : s.length ≤ maxLen) (_ : All64 s) (h1 : Row w a1 t) (l1 : t.length ≤ maxLen) (_ : All64 t) (h2 : Row w a2 at1) (l2 : at1.length ≤ maxLen) (_ : All64 at1) (h3 : Row w a3 bt) (l3 : bt.length ≤ maxLen) (_ : All64 bt) :
    Calls Try.prog 5 #[.slice a0 s.length c0, .slice a1 t.length c1, .slice a2 at1.length c2, .slice a3 bt.length c3] w fun e w' => e = .returned (.bool true) ∧ Below w.heap.size w w' := by
  have k0 := l0
  have k1 := l1
  have k2 := l2
  have k3 := l3
  unfold maxLen at l0 l1 l2 l3
  by_cases g : s.length ≤ 6 ∧ t.length ≤ 6 ∧ at1.length = s.length ∧ bt.length = t.length
  · obtain ⟨g0, g1, g2, g3⟩ := g
    have e2 : (((at1.length : Nat) : Int) != ((s.length : Nat) : Int)) = false := by rw [bne_eq_false_iff_eq]; omega
    have e3 : (((bt.length : Nat) : Int) != ((t.length : Nat) : Int)) = false := by rw [bne_eq_false_iff_eq]; omega
    replace g2 := Lib.hid g2
    replace g3 := Lib.hid g3
    go_enter Try.func5, Try.ntmps5
    go_wp2_with fail
    refine (place_any _ _ [2, 3, 4] [1, 2, 3] 3 3 3 3 _ (by exact (row_lit w _ _ _ rfl).alloc _) (by exact row_lit1 w _ _ _ _ rfl) (by decide) (by decide) rfl rfl).mono ?_
    rintro e w' ⟨rfl, rfl⟩
    rw [fact_joins]
    dsimp only [resI]
    generalize hw2 : (w.alloc (.cells #[.int .i64 2, .int .i64 3, .int .i64 4] 3)).alloc (.cells #[.int .i64 1, .int .i64 2, .int .i64 3] 3) = w2
    have b2 : Below w.heap.size w w2 := by rw [← hw2]; exact ((Below.refl _ w).alloc (Nat.le_refl _) _).alloc (by simp) _
    clear hw2
    go_wp2_with fail
    refine (joined_any a0 a1 s t _ _ c0 c1 w2 (h0.below b2) (h1.below b2) (by omega) rfl rfl).mono ?_
    rintro e w3 ⟨v3, rfl, o3, b3⟩
    replace b3 := below_trans b2 b3
    go_wp2_with fail
    refine (joined_any a2 a3 at1 bt _ _ c2 c3 w3 (h2.below b3) (h3.below b3) (by have := g2.out; have := g3.out; omega) rfl rfl).mono ?_
    rintro e w4 ⟨v4, rfl, o4, b4⟩
    replace o3 := o3.below b4
    replace b4 := below_trans b3 b4
    obtain ⟨a5, c5, rfl, m5, n5, r5⟩ := o3.view
    obtain ⟨a6, c6, rfl, m6, n6, r6⟩ := o4.view
    clear o3 o4
    go_wp2_with fail
    refine (place_any _ _ (s ++ t) (at1 ++ bt) _ _ _ _ _ r5 r6 (by omega) (by omega) (by simp) (by simp)).mono ?_
    rintro e w' ⟨rfl, rfl⟩
    cases hp : M.place (s ++ t) (at1 ++ bt) with
    | error q =>
      clear hp
      dsimp only [resI]
      go_wp2_with fail
      go_ret
      exact ⟨rfl, b4⟩
    | ok p =>
      obtain ⟨x, y, m, n, q1, q2, q3, q4, q5, q6, z1, z2, z3, z4⟩ := M.place_joined g0 g1 g2.out hp
      have hmn : m * n ≤ 4096 * 4096 := Int.mul_le_mul z1.2 z2.2 z2.1 (by omega)
      have hmn0 : 0 ≤ m * n := Int.mul_nonneg z1.1 z2.1
      have hxn : x * n ≤ 4096 * 4096 := Int.mul_le_mul z3.2 z2.2 z2.1 (by omega)
      have hxn0 : 0 ≤ x * n := Int.mul_nonneg z3.1 z2.1
      obtain ⟨z11, z12⟩ := z1
      obtain ⟨z21, z22⟩ := z2
      obtain ⟨z31, z32⟩ := z3
      obtain ⟨z41, z42⟩ := z4
      have t1 : (m * n == m * n) = true := beq_self_eq_true _
      have t2 : (p == x * n + y) = true := beq_iff_eq.2 q6
      replace q1 := Lib.hid q1
      replace q2 := Lib.hid q2
      replace q3 := Lib.hid q3
      replace q4 := Lib.hid q4
      replace q5 := Lib.hid q5
      clear hp q6
      dsimp only [resI]
      go_wp2_with fail
      refine (place_any a0 a2 s at1 _ _ c0 c2 w4 (h0.below b4) (h2.below b4) k0 k2 rfl rfl).mono ?_
      rintro e w' ⟨rfl, rfl⟩
      rw [q1.out]
      dsimp only [resI]
      go_wp2_with fail
      refine (place_any a1 a3 t bt _ _ c1 c3 w4 (h1.below b4) (h3.below b4) k1 k3 rfl rfl).mono ?_
      rintro e w' ⟨rfl, rfl⟩
      rw [q2.out]
      dsimp only [resI]
      go_wp2_with fail
      refine (count_any a0 s _ c0 w4 (h0.below b4) k0 rfl).mono ?_
      rintro e w' ⟨rfl, rfl⟩
      rw [q3.out]
      dsimp only [resI]
      go_wp2_with fail
      refine (count_any a1 t _ c1 w4 (h1.below b4) k1 rfl).mono ?_
      rintro e w' ⟨rfl, rfl⟩
      rw [q4.out]
      dsimp only [resI]
      go_wp2_with fail
      refine (joined_any a0 a1 s t _ _ c0 c1 w4 (h0.below b4) (h1.below b4) (by omega) rfl rfl).mono ?_
      rintro e w7 ⟨v7, rfl, o7, b7⟩
      replace b7 := below_trans b4 b7
      obtain ⟨a7, c7, rfl, m7, n7, r7⟩ := o7.view
      clear o7
      go_wp2_with fail
      refine (count_any _ (s ++ t) _ _ w7 r7 (by omega) (by simp)).mono ?_
      rintro e w' ⟨rfl, rfl⟩
      rw [q5.out]
      dsimp only [resI]
      go_wp2_with fail
      go_ret
      exact ⟨rfl, b7⟩
  · go_enter Try.func5, Try.ntmps5
    go_wp2_with fail
    refine (place_any _ _ [2, 3, 4] [1, 2, 3] 3 3 3 3 _ (by exact (row_lit w _ _ _ rfl).alloc _) (by exact row_lit1 w _ _ _ _ rfl) (by decide) (by decide) rfl rfl).mono ?_
    rintro e w' ⟨rfl, rfl⟩
    rw [fact_joins]
    dsimp only [resI]
    generalize hw2 : (w.alloc (.cells #[.int .i64 2, .int .i64 3, .int .i64 4] 3)).alloc (.cells #[.int .i64 1, .int .i64 2, .int .i64 3] 3) = w2
    have b2 : Below w.heap.size w w2 := by rw [← hw2]; exact ((Below.refl _ w).alloc (Nat.le_refl _) _).alloc (by simp) _
    clear hw2
    go_wp2_with fail
    all_goals first
      | (go_ret; exact ⟨rfl, b2⟩)
      | (exfalso; apply g; simp only [bne_eq_false_iff_eq] at *; omega)

end Go.Proofs.Ytldhklbpmfckcaa
