/- The walk of the law ArrBack: it returns true at every array, and writes nothing that was there. -/
import Derived.Test.YtbhbmkkpbceebaaPlainArr
import Derived.Test.YtbhbmkkpbceebaaInts
namespace Go.Proofs.Ytbhbmkkpbceebaa
open Go.RowKit

theorem fact_reshape : M.reshape [2, 2] ⟨false, [3], [1, 2, 3]⟩ = .ok ⟨false, [2, 2], [1, 2, 3, 1]⟩ := by
  have h1 := M.count_mk (s := [2, 2]) (by decide) (by decide) (by decide)
  have h2 : M.flaw false [3] [1, 2, 3] = 0 := flaw_num (M.count_mk (s := [3]) (by decide) (by decide) (by decide)) rfl
  unfold M.reshape
  rw [h1]
  dsimp only
  rw [if_pos h2]
  rfl

theorem row_four {w : World} {n : Nat} {x y z u : Int} (h : w.cell? ⟨n, 0, none⟩ = some (.int .i64 x)) (k : w.cell? ⟨n, 1, none⟩ = some (.int .i64 y)) (l : w.cell? ⟨n, 2, none⟩ = some (.int .i64 z)) (m : w.cell? ⟨n, 3, none⟩ = some (.int .i64 u)) : Row w (some ⟨n, 0, none⟩) [x, y, z, u] := by
  intro i hi
  have hi' : i < 4 := hi
  match i, hi' with
  | 0, _ => exact ⟨_, _, rfl, h⟩
  | 1, _ => exact ⟨_, _, rfl, k⟩
  | 2, _ => exact ⟨_, _, rfl, l⟩
  | 3, _ => exact ⟨_, _, rfl, m⟩

set_option maxHeartbeats 4000000 in
theorem arrBack_walk (b0 : Bool) (p0 q0 : Option Addr) (x0 y0 : List Int) (c0 d0 : Nat) (w : World) (r0 : Row w p0 x0) (t0 : Row w q0 y0) (l0 : x0.length ≤ maxLen) (m0 : y0.length ≤ maxLen) (_ : All64 x0) (_ : All64 y0) :
    Calls Try.prog 5 #[arrV b0 p0 x0.length c0 q0 y0.length d0] w fun e w' => e = .returned (.bool true) ∧ Below w.heap.size w w' := by
  go_enter Try.func5, Try.ntmps5
  go_wp2_with fail
  refine (reshape_any _ [2, 2] 2 2 false _ _ [3] [1, 2, 3] 1 1 3 3 _ (row_two (by simp [go_sem]) (by simp [go_sem])) (by decide) rfl (row_one (by simp [go_sem])) (row_three (by simp [go_sem]) (by simp [go_sem]) (by simp [go_sem])) (by decide) (by decide) rfl rfl).mono ?_
  intro e w1 hp
  obtain ⟨a1, k1, a2, k2, rfl, _, rb, hb⟩ := hp.is_ok fact_reshape
  clear hp
  have BP : Box w1 (w.heap.size) b0 p0 x0.length c0 q0 y0.length d0 := held3 hb ⟨by simp [go_sem], by simp [go_sem], by simp [go_sem]⟩
  have bw : Below w.heap.size w w1 := below_trans (push (push (push (push (start w) _) _) _) _) hb
  clear hb
  replace BP := alloc3 BP (.cells #[.bool false, .slice a1 2 k1, .slice a2 4 k2] 24)
  replace bw := push bw (.cells #[.bool false, .slice a1 2 k1, .slice a2 4 k2] 24)
  replace rb := rb.alloc (.cells #[.bool false, .slice a1 2 k1, .slice a2 4 k2] 24)
  obtain ⟨u0, u1, u2⟩ := id BP
  dsimp only [List.length_cons, List.length_nil, Nat.reduceAdd]
  go_wp2_with fail
  refine (ints_any a2 _ [1, 2, 3, 1] [1, 2, 3, 1] 4 4 k2 4 _ (by exact rb.alloc _) (by exact row_four (by simp [go_sem]) (by simp [go_sem]) (by simp [go_sem]) (by simp [go_sem])) (by decide) (by decide) rfl rfl).mono ?_
  rintro e w2 ⟨rfl, nd, rfl⟩
  rw [decide_eq_true (rfl : ([1, 2, 3, 1] : List Int) = [1, 2, 3, 1])]
  clear rb
  replace BP := alloc3 BP (.cells #[.int .i64 1, .int .i64 2, .int .i64 3, .int .i64 1] 3)
  replace bw := below_drewN (push bw (.cells #[.int .i64 1, .int .i64 2, .int .i64 3, .int .i64 1] 3)) nd
  replace BP : Box (((w1.alloc (.cells #[.bool false, .slice a1 2 k1, .slice a2 4 k2] 24)).alloc (.cells #[.int .i64 1, .int .i64 2, .int .i64 3, .int .i64 1] 3)).drewN nd) (w.heap.size) b0 p0 x0.length c0 q0 y0.length d0 := BP
  clear u0 u1 u2
  generalize ((w1.alloc (.cells #[.bool false, .slice a1 2 k1, .slice a2 4 k2] 24)).alloc (.cells #[.int .i64 1, .int .i64 2, .int .i64 3, .int .i64 1] 3)).drewN nd = w2 at *
  obtain ⟨u0, u1, u2⟩ := id BP
  go_wp2_with fail
  refine (check_any b0 p0 q0 x0 y0 _ c0 _ d0 w2 (r0.below bw) (t0.below bw) l0 m0 rfl rfl).mono ?_
  rintro e w3 ⟨rfl, hb⟩
  clear u0 u1 u2
  replace BP := held3 hb BP
  replace bw := below_trans bw hb
  clear hb
  obtain ⟨u0, u1, u2⟩ := id BP
  by_cases hf : M.flaw b0 x0 y0 = 0
  case neg =>
    rw [errV_ne hf]
    replace hf := Lib.hid hf
    go_wp2
    go_ret
    exact ⟨rfl, bw⟩
  rw [hf, errV_zero]
  have hlen := (flaw_len hf).1
  have hlx : y0.length ≤ maxLen := m0
  have hr1 : M.ravel ⟨b0, x0, y0⟩ = .ok ⟨b0, [(y0.length : Int)], y0⟩ := if_pos hf
  have hr2 : M.reshape x0 ⟨b0, [(y0.length : Int)], y0⟩ = .ok ⟨b0, x0, y0⟩ := reshape_self (ravel_sound hf) (flaw_ok hf).1
  have hr3 : M.reshape [(y0.length : Int)] ⟨b0, x0, y0⟩ = .ok ⟨b0, [(y0.length : Int)], y0⟩ := reshape_self hf (count_one hlen)
  have hs1 : M.same ⟨b0, x0, y0⟩ ⟨b0, x0, y0⟩ = .ok true := by rw [same_ok hf hf]; simp
  have hs2 : M.same ⟨b0, [(y0.length : Int)], y0⟩ ⟨b0, [(y0.length : Int)], y0⟩ = .ok true := by rw [same_ok (ravel_sound hf) (ravel_sound hf)]; simp
  replace hf := Lib.hid hf
  replace hr1 := Lib.hid hr1
  replace hr2 := Lib.hid hr2
  replace hr3 := Lib.hid hr3
  replace hs1 := Lib.hid hs1
  replace hs2 := Lib.hid hs2
  go_wp2_with fail
  refine (ravel_any b0 p0 q0 x0 y0 _ c0 _ d0 w3 (r0.below bw) (t0.below bw) l0 m0 rfl rfl).mono ?_
  intro e w4 hp
  obtain ⟨a4, k4, e4, f4, rfl, ra4, rb4, hb⟩ := hp.is_ok hr1.out
  clear hp u0 u1 u2
  dsimp only [List.length_cons, List.length_nil, Nat.reduceAdd] at ra4 rb4 ⊢
  replace BP := alloc3 (held3 hb BP) (.cells #[.bool b0, .slice a4 1 k4, .slice e4 y0.length f4] 24)
  replace bw := push (below_trans bw hb) (.cells #[.bool b0, .slice a4 1 k4, .slice e4 y0.length f4] 24)
  replace ra4 := ra4.alloc (.cells #[.bool b0, .slice a4 1 k4, .slice e4 y0.length f4] 24)
  replace rb4 := rb4.alloc (.cells #[.bool b0, .slice a4 1 k4, .slice e4 y0.length f4] 24)
  have BX : Box (w4.alloc (.cells #[.bool b0, .slice a4 1 k4, .slice e4 y0.length f4] 24)) w4.heap.size b0 a4 1 k4 e4 y0.length f4 := ⟨by simp, by simp, by simp⟩
  clear hb
  obtain ⟨u0, u1, u2⟩ := id BP
  obtain ⟨v0, v1, v2⟩ := id BX
  go_wp2_with fail
  generalize w4.alloc (.cells #[.bool b0, .slice a4 1 k4, .slice e4 y0.length f4] 24) = v4 at *
  generalize w4.heap.size = n4 at *
  refine (reshape_any p0 x0 _ c0 b0 a4 e4 [(y0.length : Int)] y0 1 k4 _ f4 v4 (r0.below bw) l0 rfl ra4 rb4 (by simp [maxLen]) m0 rfl rfl).mono ?_
  intro e w5 hp
  obtain ⟨a5, k5, e5, f5, rfl, ra5, rb5, hb⟩ := hp.is_ok hr2.out
  clear hp u0 u1 u2 v0 v1 v2
  dsimp only at ra5 rb5 ⊢
  replace BP := alloc3 (held3 hb BP) (.cells #[.bool b0, .slice a5 x0.length k5, .slice e5 y0.length f5] 24)
  replace BX := alloc3 (held3 hb BX) (.cells #[.bool b0, .slice a5 x0.length k5, .slice e5 y0.length f5] 24)
  replace ra4 := (ra4.below hb).alloc (.cells #[.bool b0, .slice a5 x0.length k5, .slice e5 y0.length f5] 24)
  replace rb4 := (rb4.below hb).alloc (.cells #[.bool b0, .slice a5 x0.length k5, .slice e5 y0.length f5] 24)
  replace bw := push (below_trans bw hb) (.cells #[.bool b0, .slice a5 x0.length k5, .slice e5 y0.length f5] 24)
  replace ra5 := ra5.alloc (.cells #[.bool b0, .slice a5 x0.length k5, .slice e5 y0.length f5] 24)
  replace rb5 := rb5.alloc (.cells #[.bool b0, .slice a5 x0.length k5, .slice e5 y0.length f5] 24)
  have BY : Box (w5.alloc (.cells #[.bool b0, .slice a5 x0.length k5, .slice e5 y0.length f5] 24)) w5.heap.size b0 a5 x0.length k5 e5 y0.length f5 := ⟨by simp, by simp, by simp⟩
  clear hb
  obtain ⟨u0, u1, u2⟩ := id BP
  obtain ⟨v0, v1, v2⟩ := id BX
  obtain ⟨z0, z1, z2⟩ := id BY
  go_wp2_with fail
  generalize w5.alloc (.cells #[.bool b0, .slice a5 x0.length k5, .slice e5 y0.length f5] 24) = v5 at *
  generalize w5.heap.size = n5 at *
  refine (match_any b0 b0 a5 e5 p0 q0 x0 y0 x0 y0 _ k5 _ f5 _ c0 _ d0 v5 ra5 rb5 l0 m0 rfl rfl (r0.below bw) (t0.below bw) l0 m0 rfl rfl).mono ?_
  rintro e w6 ⟨rfl, hb⟩
  rw [hs1.out]
  dsimp only [resB]
  clear u0 u1 u2 v0 v1 v2 z0 z1 z2 BY ra5 rb5
  replace BP := held3 hb BP
  replace BX := held3 hb BX
  replace ra4 := ra4.below hb
  replace rb4 := rb4.below hb
  replace bw := below_trans bw hb
  clear hb
  obtain ⟨u0, u1, u2⟩ := id BP
  obtain ⟨v0, v1, v2⟩ := id BX
  have hlt : w.heap.size < w6.heap.size := World.block_lt_of_cell? w6 _ BP.1
  have hne : w6.heap.size ≠ w.heap.size := Nat.ne_of_gt hlt
  obtain ⟨v3, v4', v5'⟩ := alloc3 BP (.cells #[.int .i64 y0.length] 3)
  go_wp2_with fail
  refine (reshape_any _ [(y0.length : Int)] 1 1 b0 p0 q0 x0 y0 _ c0 _ d0 _ (row_one (by simp [go_sem])) (by simp [maxLen]) rfl (r0.below (push bw _)) (t0.below (push bw _)) l0 m0 rfl rfl).mono ?_
  intro e w7 hp
  obtain ⟨a7, k7, e7, f7, rfl, ra7, rb7, hb⟩ := hp.is_ok hr3.out
  clear hp u0 u1 u2 v0 v1 v2 v3 v4' v5' hlt hne
  dsimp only [List.length_cons, List.length_nil, Nat.reduceAdd] at ra7 rb7 ⊢
  replace BX := alloc3 (held3 hb (alloc3 BX _)) (.cells #[.bool b0, .slice a7 1 k7, .slice e7 y0.length f7] 24)
  replace ra4 := ((ra4.alloc _).below hb).alloc (.cells #[.bool b0, .slice a7 1 k7, .slice e7 y0.length f7] 24)
  replace rb4 := ((rb4.alloc _).below hb).alloc (.cells #[.bool b0, .slice a7 1 k7, .slice e7 y0.length f7] 24)
  replace bw := push (below_trans (push bw _) hb) (.cells #[.bool b0, .slice a7 1 k7, .slice e7 y0.length f7] 24)
  replace ra7 := ra7.alloc (.cells #[.bool b0, .slice a7 1 k7, .slice e7 y0.length f7] 24)
  replace rb7 := rb7.alloc (.cells #[.bool b0, .slice a7 1 k7, .slice e7 y0.length f7] 24)
  clear hb
  obtain ⟨v0, v1, v2⟩ := id BX
  go_wp2_with fail
  refine (match_any b0 b0 a4 e4 a7 e7 [(y0.length : Int)] y0 [(y0.length : Int)] y0 1 k4 _ f4 1 k7 _ f7 _ ra4 rb4 (by simp [maxLen]) m0 rfl rfl ra7 rb7 (by simp [maxLen]) m0 rfl rfl).mono ?_
  rintro e w8 ⟨rfl, hb⟩
  rw [hs2.out]
  dsimp only [resB]
  replace bw := below_trans bw hb
  clear hb v0 v1 v2 BX BP ra4 rb4 ra7 rb7
  go_wp2
  go_ret
  exact ⟨rfl, bw⟩

end Go.Proofs.Ytbhbmkkpbceebaa
