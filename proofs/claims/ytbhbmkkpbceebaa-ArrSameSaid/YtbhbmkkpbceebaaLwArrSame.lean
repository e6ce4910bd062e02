/- The walk of the law ArrSame: it returns true at all arrays, and writes nothing that was there. -/
import Derived.Test.YtbhbmkkpbceebaaBox
namespace Go.Proofs.Ytbhbmkkpbceebaa
open Go.RowKit

theorem fact_match : M.same ⟨false, [2], [1, 2]⟩ ⟨false, [2], [1, 2]⟩ = .ok true := by
  have hc := M.count_mk (s := [2]) (by decide) (by decide) (by decide)
  have hf : M.flaw false [2] [1, 2] = 0 := flaw_num hc rfl
  unfold M.same
  rw [if_pos hf, if_pos hf]
  rfl

set_option maxHeartbeats 2000000 in
theorem arrSame_walk (b0 : Bool) (p0 q0 : Option Addr) (x0 y0 : List Int) (c0 d0 : Nat) (b1 : Bool) (p1 q1 : Option Addr) (x1 y1 : List Int) (c1 d1 : Nat) (b2 : Bool) (p2 q2 : Option Addr) (x2 y2 : List Int) (c2 d2 : Nat) (w : World)
    (r0 : Row w p0 x0) (t0 : Row w q0 y0) (l0 : x0.length ≤ maxLen) (m0 : y0.length ≤ maxLen) (_ : All64 x0) (_ : All64 y0)
    (r1 : Row w p1 x1) (t1 : Row w q1 y1) (l1 : x1.length ≤ maxLen) (m1 : y1.length ≤ maxLen) (_ : All64 x1) (_ : All64 y1)
    (r2 : Row w p2 x2) (t2 : Row w q2 y2) (l2 : x2.length ≤ maxLen) (m2 : y2.length ≤ maxLen) (_ : All64 x2) (_ : All64 y2) :
    Calls Try.prog 3 #[arrV b0 p0 x0.length c0 q0 y0.length d0, arrV b1 p1 x1.length c1 q1 y1.length d1, arrV b2 p2 x2.length c2 q2 y2.length d2] w fun e w' => e = .returned (.bool true) ∧ Below w.heap.size w w' := by
  go_enter Try.func3, Try.ntmps3
  go_wp2_with fail
  refine (match_any false false _ _ _ _ [2] [1, 2] [2] [1, 2] 1 1 2 2 1 1 2 2 _ (row_one (by simp [go_sem])) (row_two (by simp [go_sem]) (by simp [go_sem])) (by decide) (by decide) rfl rfl (row_one (by simp [go_sem])) (row_two (by simp [go_sem]) (by simp [go_sem])) (by decide) (by decide) rfl rfl).mono ?_
  rintro e w1 ⟨rfl, hb⟩
  rw [fact_match]
  dsimp only [resB]
  have bw : Below w.heap.size w w1 := below_trans (push (push (push (push (push (push (push (start w) _) _) _) _) _) _) _) hb
  have B0 : Box w1 (w.heap.size) b0 p0 x0.length c0 q0 y0.length d0 := held3 hb ⟨by simp [go_sem], by simp [go_sem], by simp [go_sem]⟩
  have B1 : Box w1 (w.heap.size + 1) b1 p1 x1.length c1 q1 y1.length d1 := held3 hb ⟨by simp [go_sem], by simp [go_sem], by simp [go_sem]⟩
  have B2 : Box w1 (w.heap.size + 1 + 1) b2 p2 x2.length c2 q2 y2.length d2 := held3 hb ⟨by simp [go_sem], by simp [go_sem], by simp [go_sem]⟩
  clear hb
  obtain ⟨u0, u1, u2⟩ := id B0
  obtain ⟨v0, v1, v2⟩ := id B1
  obtain ⟨t3, t4, t5⟩ := id B2
  go_wp2_with fail
  refine (check_any b0 p0 q0 x0 y0 _ c0 _ d0 w1 (r0.below bw) (t0.below bw) l0 m0 rfl rfl).mono ?_
  rintro e w2 ⟨rfl, hb⟩
  clear u0 u1 u2 v0 v1 v2 t3 t4 t5
  replace B0 := held3 hb B0
  replace B1 := held3 hb B1
  replace B2 := held3 hb B2
  replace bw := below_trans bw hb
  clear hb
  obtain ⟨u0, u1, u2⟩ := id B0
  obtain ⟨v0, v1, v2⟩ := id B1
  obtain ⟨t3, t4, t5⟩ := id B2
  by_cases f0 : M.flaw b0 x0 y0 = 0
  case neg =>
    rw [errV_ne f0]
    replace f0 := Lib.hid f0
    go_wp2
    go_ret
    exact ⟨rfl, bw⟩
  rw [f0, errV_zero]
  replace f0 := Lib.hid f0
  go_wp2_with fail
  refine (check_any b1 p1 q1 x1 y1 _ c1 _ d1 w2 (r1.below bw) (t1.below bw) l1 m1 rfl rfl).mono ?_
  rintro e w3 ⟨rfl, hb⟩
  clear u0 u1 u2 v0 v1 v2 t3 t4 t5
  replace B0 := held3 hb B0
  replace B1 := held3 hb B1
  replace B2 := held3 hb B2
  replace bw := below_trans bw hb
  clear hb
  obtain ⟨u0, u1, u2⟩ := id B0
  obtain ⟨v0, v1, v2⟩ := id B1
  obtain ⟨t3, t4, t5⟩ := id B2
  by_cases f1 : M.flaw b1 x1 y1 = 0
  case neg =>
    rw [errV_ne f1]
    replace f1 := Lib.hid f1
    go_wp2
    go_ret
    exact ⟨rfl, bw⟩
  rw [f1, errV_zero]
  replace f1 := Lib.hid f1
  go_wp2_with fail
  refine (check_any b2 p2 q2 x2 y2 _ c2 _ d2 w3 (r2.below bw) (t2.below bw) l2 m2 rfl rfl).mono ?_
  rintro e w4 ⟨rfl, hb⟩
  clear u0 u1 u2 v0 v1 v2 t3 t4 t5
  replace B0 := held3 hb B0
  replace B1 := held3 hb B1
  replace B2 := held3 hb B2
  replace bw := below_trans bw hb
  clear hb
  obtain ⟨u0, u1, u2⟩ := id B0
  obtain ⟨v0, v1, v2⟩ := id B1
  obtain ⟨t3, t4, t5⟩ := id B2
  by_cases f2 : M.flaw b2 x2 y2 = 0
  case neg =>
    rw [errV_ne f2]
    replace f2 := Lib.hid f2
    go_wp2
    go_ret
    exact ⟨rfl, bw⟩
  rw [f2, errV_zero]
  replace f2 := Lib.hid f2
  go_wp2_with fail
  refine (match_any b0 b0 p0 q0 p0 q0 x0 y0 x0 y0 _ c0 _ d0 _ c0 _ d0 w4 (r0.below bw) (t0.below bw) l0 m0 rfl rfl (r0.below bw) (t0.below bw) l0 m0 rfl rfl).mono ?_
  rintro e w5 ⟨rfl, hb⟩
  clear u0 u1 u2 v0 v1 v2 t3 t4 t5
  replace B0 := held3 hb B0
  replace B1 := held3 hb B1
  replace B2 := held3 hb B2
  replace bw := below_trans bw hb
  clear hb
  obtain ⟨u0, u1, u2⟩ := id B0
  obtain ⟨v0, v1, v2⟩ := id B1
  obtain ⟨t3, t4, t5⟩ := id B2
  rw [same_ok f0.out f0.out]
  dsimp only [resB]
  generalize e00 : decide ((⟨b0, x0, y0⟩ : Arr) = ⟨b0, x0, y0⟩) = s00
  replace e00 := Lib.hid e00
  go_wp2_with fail
  refine (match_any b0 b1 p0 q0 p1 q1 x0 y0 x1 y1 _ c0 _ d0 _ c1 _ d1 w5 (r0.below bw) (t0.below bw) l0 m0 rfl rfl (r1.below bw) (t1.below bw) l1 m1 rfl rfl).mono ?_
  rintro e w6 ⟨rfl, hb⟩
  clear u0 u1 u2 v0 v1 v2 t3 t4 t5
  replace B0 := held3 hb B0
  replace B1 := held3 hb B1
  replace B2 := held3 hb B2
  replace bw := below_trans bw hb
  clear hb
  obtain ⟨u0, u1, u2⟩ := id B0
  obtain ⟨v0, v1, v2⟩ := id B1
  obtain ⟨t3, t4, t5⟩ := id B2
  rw [same_ok f0.out f1.out]
  dsimp only [resB]
  generalize e01 : decide ((⟨b0, x0, y0⟩ : Arr) = ⟨b1, x1, y1⟩) = s01
  replace e01 := Lib.hid e01
  go_wp2_with fail
  refine (match_any b1 b0 p1 q1 p0 q0 x1 y1 x0 y0 _ c1 _ d1 _ c0 _ d0 w6 (r1.below bw) (t1.below bw) l1 m1 rfl rfl (r0.below bw) (t0.below bw) l0 m0 rfl rfl).mono ?_
  rintro e w7 ⟨rfl, hb⟩
  clear u0 u1 u2 v0 v1 v2 t3 t4 t5
  replace B0 := held3 hb B0
  replace B1 := held3 hb B1
  replace B2 := held3 hb B2
  replace bw := below_trans bw hb
  clear hb
  obtain ⟨u0, u1, u2⟩ := id B0
  obtain ⟨v0, v1, v2⟩ := id B1
  obtain ⟨t3, t4, t5⟩ := id B2
  rw [same_ok f1.out f0.out]
  dsimp only [resB]
  generalize e10 : decide ((⟨b1, x1, y1⟩ : Arr) = ⟨b0, x0, y0⟩) = s10
  replace e10 := Lib.hid e10
  go_wp2_with fail
  refine (match_any b1 b2 p1 q1 p2 q2 x1 y1 x2 y2 _ c1 _ d1 _ c2 _ d2 w7 (r1.below bw) (t1.below bw) l1 m1 rfl rfl (r2.below bw) (t2.below bw) l2 m2 rfl rfl).mono ?_
  rintro e w8 ⟨rfl, hb⟩
  clear u0 u1 u2 v0 v1 v2 t3 t4 t5
  replace B0 := held3 hb B0
  replace B1 := held3 hb B1
  replace B2 := held3 hb B2
  replace bw := below_trans bw hb
  clear hb
  obtain ⟨u0, u1, u2⟩ := id B0
  obtain ⟨v0, v1, v2⟩ := id B1
  obtain ⟨t3, t4, t5⟩ := id B2
  rw [same_ok f1.out f2.out]
  dsimp only [resB]
  generalize e12 : decide ((⟨b1, x1, y1⟩ : Arr) = ⟨b2, x2, y2⟩) = s12
  replace e12 := Lib.hid e12
  go_wp2_with fail
  refine (match_any b0 b2 p0 q0 p2 q2 x0 y0 x2 y2 _ c0 _ d0 _ c2 _ d2 w8 (r0.below bw) (t0.below bw) l0 m0 rfl rfl (r2.below bw) (t2.below bw) l2 m2 rfl rfl).mono ?_
  rintro e w9 ⟨rfl, hb⟩
  clear u0 u1 u2 v0 v1 v2 t3 t4 t5
  replace B0 := held3 hb B0
  replace B1 := held3 hb B1
  replace B2 := held3 hb B2
  replace bw := below_trans bw hb
  clear hb
  obtain ⟨u0, u1, u2⟩ := id B0
  obtain ⟨v0, v1, v2⟩ := id B1
  obtain ⟨t3, t4, t5⟩ := id B2
  rw [same_ok f0.out f2.out]
  dsimp only [resB]
  generalize e02 : decide ((⟨b0, x0, y0⟩ : Arr) = ⟨b2, x2, y2⟩) = s02
  replace e02 := Lib.hid e02
  have h00 : s00 = true := by rw [← e00.out]; simp
  have h01 : s10 = s01 := by rw [← e10.out, ← e01.out]; exact decide_eq_decide.2 eq_comm
  have h02 : s01 = true → s12 = true → s02 = true := by
    rw [← e01.out, ← e12.out, ← e02.out]
    simp only [decide_eq_true_eq]
    exact fun h1 h2 => h1.trans h2
  clear e00 e01 e10 e12 e02 B0 B1 B2 u0 u1 u2 v0 v1 v2 t3 t4 t5
  subst h00
  subst h01
  cases s10 <;> cases s12 <;> cases s02 <;> (try exact absurd (h02 rfl rfl) (by decide))
  all_goals
    clear h02
    go_wp2
    go_ret
    exact ⟨rfl, bw⟩

end Go.Proofs.Ytbhbmkkpbceebaa
