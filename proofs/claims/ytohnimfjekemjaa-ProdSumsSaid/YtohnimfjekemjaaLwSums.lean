/- The walk of the law ProdSums: it returns true at all arrays. No condition. -/
import Derived.Test.YtohnimfjekemjaaWkInner
import Derived.Test.YtohnimfjekemjaaSumPlain
import Derived.Test.YtohnimfjekemjaaWkAlike
import Derived.Test.YtohnimfjekemjaaWkLawVec
import Derived.Test.YtohnimfjekemjaaInts
import Derived.Deep.Cut
namespace Go.Proofs.Ytohnimfjekemjaa
open Go.RowKit

set_option maxRecDepth 20000 in
set_option maxHeartbeats 16000000 in
theorem prodSums_walk (b0 : Bool) (p0 q0 : Option Addr) (x0 y0 : List Int) (c0 d0 : Nat) (b1 : Bool) (p1 q1 : Option Addr) (x1 y1 : List Int) (c1 d1 : Nat) (b2 : Bool) (p2 q2 : Option Addr) (x2 y2 : List Int) (c2 d2 : Nat) (w : World)
    (r0 : Row w p0 x0) (s0 : Row w q0 y0) (l0 : x0.length ≤ maxLen) (m0 : y0.length ≤ maxLen) (n0 : All64 x0) (o0 : All64 y0) (z0 : x0.length ≤ c0) (uu0 : y0.length ≤ d0)
    (r1 : Row w p1 x1) (s1 : Row w q1 y1) (l1 : x1.length ≤ maxLen) (m1 : y1.length ≤ maxLen) (n1 : All64 x1) (o1 : All64 y1) (z1 : x1.length ≤ c1) (uu1 : y1.length ≤ d1)
    (r2 : Row w p2 x2) (s2 : Row w q2 y2) (l2 : x2.length ≤ maxLen) (m2 : y2.length ≤ maxLen) (n2 : All64 x2) (o2 : All64 y2) (z2 : x2.length ≤ c2) (uu2 : y2.length ≤ d2) :
    Calls Try.prog 11 #[arrV b0 p0 x0.length c0 q0 y0.length d0, arrV b1 p1 x1.length c1 q1 y1.length d1, arrV b2 p2 x2.length c2 q2 y2.length d2] w fun e w' => e = .returned (.bool true) ∧ Below w.heap.size w w' := by
  have E := (((((((((Env.start w).addRow s2).addRow r2).addRow s1).addRow r1).addRow s0).addRow r0).box b0 p0 x0.length c0 q0 y0.length d0).box b1 p1 x1.length c1 q1 y1.length d1).box b2 p2 x2.length c2 q2 y2.length d2
  have hga := fun w h => grid_any 16 b0 p0 q0 x0 y0 _ c0 _ d0 w h l0 m0 rfl rfl
  have hgb := fun w h => grid_any 16 b1 p1 q1 x1 y1 _ c1 _ d1 w h l1 m1 rfl rfl
  have hgc := fun w h => grid_any 16 b2 p2 q2 x2 y2 _ c2 _ d2 w h l2 m2 rfl rfl
  have hsh := fun w h1 h2 => ints_any p1 p2 x1 x2 _ _ c1 c2 w h1 h2 l1 l2 rfl rfl
  have E1 := (E.alloc (.cells #[.int .i64 1, .int .i64 1] 3)).addRow (row_lit _ [1, 1] _ _ rfl)
  simp only [World.size_alloc] at E E1
  have hin := sum_fact
  replace hga := Lib.hid hga
  replace hgb := Lib.hid hgb
  replace hgc := Lib.hid hgc
  replace hsh := Lib.hid hsh
  replace hin := Lib.hid hin
  clear E
  go_enter Try.func11, Try.ntmps11
  go_wp2_with fail
  refine (lawVec_any _ [1, 1] _ _ _ (E1.getRow 0 rfl) (by simp) rfl).mono ?_
  rintro e v1 ⟨a1, e1, k1, rfl, ra, rb, hb⟩
  dsimp only [List.length_cons, List.length_nil, Nat.reduceAdd] at ra rb ⊢
  have E2 := ((((E1.step hb).drop1).addRow rb).addRow ra).alloc (.cells #[.int .i64 4, .int .i64 3] 3)
  have E2 := E2.addRow (row_lit _ [4, 3] _ _ rfl)
  clear E1 ra rb hb
  go_wp2_with fail
  refine (lawVec_any _ [4, 3] _ _ _ (E2.getRow 0 rfl) (by simp) rfl).mono ?_
  rintro e v2 ⟨a2, e2, k2, rfl, ra, rb, hb⟩
  dsimp only [List.length_cons, List.length_nil, Nat.reduceAdd] at ra rb ⊢
  have E3 := (((E2.step hb).drop1).addRow rb).addRow ra
  clear E2 ra rb hb
  go_wp2_with fail
  refine (inner_num 1 3 ⟨_, rfl⟩ false false rfl rfl a1 e1 a2 e2 [2] [1, 1] [2] [4, 3] 1 1 2 k1 1 1 2 k2 _ (E3.getRow 2 rfl) (E3.getRow 3 rfl) (by simp [maxLen]) (by simp [maxLen]) (by intro x hx; simp at hx; unfold I64; omega) (by simp) rfl rfl (E3.getRow 0 rfl) (E3.getRow 1 rfl) (by simp [maxLen]) (by simp [maxLen]) (by intro x hx; simp at hx; unfold I64; omega) (by simp) rfl rfl).mono ?_
  intro e v3 hp
  obtain ⟨af, cf, ef, kf, rfl, ra, rb, -, -, -, hb⟩ := hp.is_ok hin.out
  clear hp
  dsimp only [List.length_cons, List.length_nil, Nat.reduceAdd] at ra rb ⊢
  obtain ⟨bf, of', rfl, hcf⟩ := rb.alloc (.cells #[.bool false, .slice af 0 cf, .slice ef 1 kf] 24) 0 (by simp)
  have E4 := ((((E3.drop1).drop1).drop1).drop1).step hb |>.box false af 0 cf (some ⟨bf, of', none⟩) 1 kf
  simp only [List.getD_cons_zero, Nat.add_zero] at hcf
  clear ra rb hb E3
  replace l0 := Lib.hid l0
  replace l1 := Lib.hid l1
  replace l2 := Lib.hid l2
  replace m0 := Lib.hid m0
  replace m1 := Lib.hid m1
  replace m2 := Lib.hid m2
  replace o0 := Lib.hid o0
  replace o1 := Lib.hid o1
  replace o2 := Lib.hid o2
  replace z0 := Lib.hid z0
  replace z1 := Lib.hid z1
  replace z2 := Lib.hid z2
  clear n0 n1 n2 uu0 uu1 uu2
  -- [boxF 0, boxC 1, boxB 2, boxA 3, r0 4, s0 5, r1 6, s1 7, r2 8, s2 9]
  obtain ⟨⟨u0, u1, u2⟩, -, -, -⟩ := E4.getBox 0 rfl
  obtain ⟨⟨t0, t1, t2⟩, -, -, -⟩ := E4.getBox 2 rfl
  obtain ⟨⟨v0, v1, v2⟩, -, -, -⟩ := E4.getBox 1 rfl
  go_wp2_with fail
  refine (hsh.out _ (E4.getRow 6 rfl) (E4.getRow 8 rfl)).mono ?_
  rintro e w4 ⟨rfl, nd, hw4⟩
  have E := E4.drew nd
  rw [← hw4] at E
  replace hw4 := Lib.hid hw4
  clear E4 u0 u1 u2 t0 t1 t2 v0 v1 v2 hcf
  obtain ⟨⟨u0, u1, u2⟩, -, -, -⟩ := E.getBox 3 rfl
  go_wp2_with fail
  refine (hga.out _ (E.getRow 4 rfl)).mono ?_
  rintro e w5 ⟨rfl, hb⟩
  replace E := E.step hb
  clear hb u0 u1 u2
  cases hqa : M.grid ⟨b0, x0, y0⟩ 16 with
  | false =>
    replace hqa := Lib.hid hqa
    have hbel := E.bel
    clear E
    cases hsd : decide (x1 = x2)
    all_goals
      replace hsd := Lib.hid hsd
      go_wp2
      go_ret
      exact ⟨rfl, hbel⟩
  | true =>
  obtain ⟨⟨u0, u1, u2⟩, -, -, -⟩ := E.getBox 2 rfl
  go_wp2_with fail
  refine (hgb.out _ (E.getRow 6 rfl)).mono ?_
  rintro e w6 ⟨rfl, hb⟩
  replace E := E.step hb
  clear hb u0 u1 u2
  cases hqb : M.grid ⟨b1, x1, y1⟩ 16 with
  | false =>
    replace hqa := Lib.hid hqa
    replace hqb := Lib.hid hqb
    have hbel := E.bel
    clear E
    cases hsd : decide (x1 = x2)
    all_goals
      replace hsd := Lib.hid hsd
      go_wp2
      go_ret
      exact ⟨rfl, hbel⟩
  | true =>
  obtain ⟨⟨u0, u1, u2⟩, -, -, -⟩ := E.getBox 1 rfl
  go_wp2_with fail
  refine (hgc.out _ (E.getRow 8 rfl)).mono ?_
  rintro e w7 ⟨rfl, hb⟩
  replace E := E.step hb
  clear hb u0 u1 u2
  cases hqc : M.grid ⟨b2, x2, y2⟩ 16 with
  | false =>
    replace hqa := Lib.hid hqa
    replace hqb := Lib.hid hqb
    replace hqc := Lib.hid hqc
    have hbel := E.bel
    clear E
    cases hsd : decide (x1 = x2)
    all_goals
      replace hsd := Lib.hid hsd
      go_wp2
      go_ret
      exact ⟨rfl, hbel⟩
  | true =>
  by_cases hxx : x1 = x2
  case neg =>
    rw [decide_eq_false hxx]
    replace hxx := Lib.hid hxx
    replace hqa := Lib.hid hqa
    replace hqb := Lib.hid hqb
    replace hqc := Lib.hid hqc
    have hbel := E.bel
    clear E
    go_wp2
    go_ret
    exact ⟨rfl, hbel⟩
  rw [decide_eq_true hxx]
  obtain ⟨m, p, hm, hp, hx, la⟩ := grid_parts hqa (by decide)
  rw [Arr.mk.injEq] at hx
  obtain ⟨rfl, rfl, -⟩ := hx
  obtain ⟨p', n, hp', hn, hx, lb⟩ := grid_parts hqb (by decide)
  rw [Arr.mk.injEq] at hx
  obtain ⟨rfl, rfl, -⟩ := hx
  obtain ⟨p3, n3, _, _, hx, lc⟩ := grid_parts hqc (by decide)
  rw [Arr.mk.injEq] at hx
  obtain ⟨rfl, hx2, -⟩ := hx
  dsimp only at la lb lc hx2
  have lc' : y2.length = p' * n := by
    rw [← hxx] at hx2
    have e1 : (p' : Int) = p3 := by injection hx2
    have e2 : (n : Int) = n3 := by injection hx2 with _ h; injection h
    have e1' : p' = p3 := by omega
    have e2' : n = n3 := by omega
    rw [lc, e1', e2']
  clear hx2 lc
  subst hxx
  obtain ⟨sL, hs, s64, sl⟩ : ∃ sL, M.each2 1 ⟨false, [(p' : Int), (n : Int)], y1⟩ ⟨false, [(p' : Int), (n : Int)], y2⟩ = .ok ⟨false, [(p' : Int), (n : Int)], sL⟩ ∧ All64 sL ∧ sL.length = p' * n :=
    ⟨_, each_sum (by omega) (by omega) o1.out o2.out lb lc', matL_i64 _ _ _, matL_length _ _ _⟩
  have eS : sL.length ≤ maxLen := by have := Nat.mul_le_mul (show p' ≤ 16 by omega) (show n ≤ 16 by omega); rw [sl]; unfold maxLen; omega
  replace la := Lib.hid la
  replace lb := Lib.hid lb
  replace lc' := Lib.hid lc'
  replace hs := Lib.hid hs
  replace sl := Lib.hid sl
  replace s64 := Lib.hid s64
  replace eS := Lib.hid eS
  replace hqa := Lib.hid hqa
  replace hqb := Lib.hid hqb
  replace hqc := Lib.hid hqc
  obtain ⟨ba, oa, rfl, -⟩ := (E.getRow 4 rfl) 0 (by simp)
  obtain ⟨bb, ob, rfl, -⟩ := (E.getRow 6 rfl) 0 (by simp)
  obtain ⟨bc, oc, rfl, -⟩ := (E.getRow 8 rfl) 0 (by simp)
  simp only [List.length_cons, List.length_nil, Nat.zero_add, Nat.reduceAdd] at E ⊢
  obtain ⟨⟨u0, u1, u2⟩, -, -, -⟩ := E.getBox 2 rfl
  obtain ⟨⟨t0, t1, t2⟩, -, -, -⟩ := E.getBox 1 rfl
  go_wp2_with fail
  refine (each2_any 1 false false (some ⟨bb, ob, none⟩) q1 (some ⟨bc, oc, none⟩) q2 [(p' : Int), (n : Int)] y1 [(p' : Int), (n : Int)] y2 2 c1 _ d1 2 c2 _ d2 _ (E.getRow 6 rfl) (E.getRow 7 rfl) (by simp [maxLen]) m1.out o1.out rfl rfl (E.getRow 8 rfl) (E.getRow 9 rfl) (by simp [maxLen]) m2.out o2.out rfl rfl).mono ?_
  intro e vs hq
  obtain ⟨a4, c4, e4, k4, rfl, ra, rb, -, -, hc4, hb⟩ := hq.is_ok hs.out
  clear hq u0 u1 u2 t0 t1 t2
  dsimp only [List.length_cons, List.length_nil, Nat.reduceAdd] at ra rb hc4 ⊢
  replace E := ((((E.drop1).step hb).addRow rb).addRow ra).box false a4 2 c4 e4 sL.length k4
  clear ra rb hb
  -- [boxS 0, raS 1, rbS 2, boxC 3, boxB 4, boxA 5, r0 6, s0 7, r1 8, s1 9, r2 10, s2 11]
  obtain ⟨⟨u0, u1, u2⟩, -, -, -⟩ := E.getBox 5 rfl
  obtain ⟨⟨t0, t1, t2⟩, -, -, -⟩ := E.getBox 4 rfl
  obtain ⟨_, _, e, ca0⟩ := (E.getRow 6 rfl) 0 (by simp)
  cases e
  obtain ⟨_, _, e, ca1⟩ := (E.getRow 6 rfl) 1 (by simp)
  cases e
  obtain ⟨_, _, e, cb0⟩ := (E.getRow 8 rfl) 0 (by simp)
  cases e
  obtain ⟨_, _, e, cb1⟩ := (E.getRow 8 rfl) 1 (by simp)
  cases e
  simp only [List.getD_cons_zero, List.getD_cons_succ, Nat.add_zero] at ca0 ca1 cb0 cb1
  go_upto_region 10 with fail
  go_quiet (fail)
  generalize hW : World.drewN _ nq = W0 at *
  have E0 := E.drew nq
  rw [hW] at E0
  replace hW := Lib.hid hW
  clear E u0 u1 u2 t0 t1 t2 ca0 ca1 cb0 cb1
  go_upto_if 91 with fail
  go_cut [20] from 83 (fun s20 wx => Env w wx [.box vs.heap.size false a4 2 c4 e4 sL.length k4, .row a4 [(p' : Int), (n : Int)], .row e4 sL, .box (w.heap.size + 1 + 1) false (some ⟨bc, oc, none⟩) 2 c2 q2 y2.length d2, .box (w.heap.size + 1) false (some ⟨bb, ob, none⟩) 2 c1 q1 y1.length d1, .box w.heap.size false (some ⟨ba, oa, none⟩) 2 c0 q0 y0.length d0, .row (some ⟨ba, oa, none⟩) [(m : Int), (p : Int)], .row q0 y0, .row (some ⟨bb, ob, none⟩) [(p' : Int), (n : Int)], .row q1 y1, .row (some ⟨bc, oc, none⟩) [(p' : Int), (n : Int)], .row q2 y2])
  case first =>
    by_cases hpp : p = p'
    case neg =>
      have t1 : ((p : Int) == (p' : Int)) = false := by rw [beq_eq_false_iff_ne]; omega
      replace hpp := Lib.hid hpp
      go_wp2
      go_meet
      case rel => exact E0
    · subst hpp
      have t1 : ((p : Int) == (p : Int)) = true := by simp
      obtain ⟨X, P, Q, hI1, hI2, hI3, hI4, ⟨P64, lP⟩, ⟨Q64, lQ⟩, lX⟩ := sum_left (by omega : m ≤ 64) (by omega : p ≤ 64) (by omega : n ≤ 64) o0.out o1.out o2.out la.out lb.out lc'.out hs.out
      have hmul := Nat.mul_le_mul (show m ≤ 16 by omega) (show n ≤ 16 by omega)
      have eX : X.length ≤ maxLen := by rw [lX]; unfold maxLen; omega
      have eP : P.length ≤ maxLen := by rw [lP]; unfold maxLen; omega
      have eQ : Q.length ≤ maxLen := by rw [lQ]; unfold maxLen; omega
      clear hmul lX lP lQ
      replace hI1 := Lib.hid hI1
      replace hI2 := Lib.hid hI2
      replace hI3 := Lib.hid hI3
      replace hI4 := Lib.hid hI4
      replace eX := Lib.hid eX
      replace eP := Lib.hid eP
      replace eQ := Lib.hid eQ
      obtain ⟨⟨u0, u1, u2⟩, -, -, -⟩ := E0.getBox 5 rfl
      obtain ⟨⟨t0, t1, t2⟩, -, -, -⟩ := E0.getBox 0 rfl
      go_wp2_with fail
      refine (inner_num 1 3 ⟨0, rfl⟩ false false rfl rfl (some ⟨ba, oa, none⟩) q0 a4 e4 [(m : Int), (p : Int)] y0 [(p : Int), (n : Int)] sL 2 c0 _ d0 2 c4 _ k4 _ (E0.getRow 6 rfl) (E0.getRow 7 rfl) (by simp [maxLen]) m0.out o0.out z0.out rfl rfl (E0.getRow 1 rfl) (E0.getRow 2 rfl) (by simp [maxLen]) eS.out s64.out hc4 rfl rfl).mono ?_
      intro e v10 hq
      obtain ⟨a10, c10, e10, k10, rfl, ra, rb, -, -, hc10, hb⟩ := hq.is_ok hI1.out
      clear hq u0 u1 u2 t0 t1 t2
      dsimp only [List.length_cons, List.length_nil, Nat.reduceAdd] at ra rb hc10 ⊢
      replace E0 := (((E0.step hb).addRow rb).addRow ra).box false a10 2 c10 e10 X.length k10
      clear ra rb hb
      obtain ⟨⟨u0, u1, u2⟩, -, -, -⟩ := E0.getBox 8 rfl
      obtain ⟨⟨t0, t1, t2⟩, -, -, -⟩ := E0.getBox 7 rfl
      go_wp2_with fail
      refine (inner_num 1 3 ⟨0, rfl⟩ false false rfl rfl (some ⟨ba, oa, none⟩) q0 (some ⟨bb, ob, none⟩) q1 [(m : Int), (p : Int)] y0 [(p : Int), (n : Int)] y1 2 c0 _ d0 2 c1 _ d1 _ (E0.getRow 9 rfl) (E0.getRow 10 rfl) (by simp [maxLen]) m0.out o0.out z0.out rfl rfl (E0.getRow 11 rfl) (E0.getRow 12 rfl) (by simp [maxLen]) m1.out o1.out z1.out rfl rfl).mono ?_
      intro e v11 hq
      obtain ⟨a11, c11, e11, k11, rfl, ra, rb, -, -, hc11, hb⟩ := hq.is_ok hI2.out
      clear hq u0 u1 u2 t0 t1 t2
      dsimp only [List.length_cons, List.length_nil, Nat.reduceAdd] at ra rb hc11 ⊢
      replace E0 := (((E0.step hb).addRow rb).addRow ra).box false a11 2 c11 e11 P.length k11
      clear ra rb hb
      obtain ⟨⟨u0, u1, u2⟩, -, -, -⟩ := E0.getBox 11 rfl
      obtain ⟨⟨t0, t1, t2⟩, -, -, -⟩ := E0.getBox 9 rfl
      go_wp2_with fail
      refine (inner_num 1 3 ⟨0, rfl⟩ false false rfl rfl (some ⟨ba, oa, none⟩) q0 (some ⟨bc, oc, none⟩) q2 [(m : Int), (p : Int)] y0 [(p : Int), (n : Int)] y2 2 c0 _ d0 2 c2 _ d2 _ (E0.getRow 12 rfl) (E0.getRow 13 rfl) (by simp [maxLen]) m0.out o0.out z0.out rfl rfl (E0.getRow 16 rfl) (E0.getRow 17 rfl) (by simp [maxLen]) m2.out o2.out z2.out rfl rfl).mono ?_
      intro e v12 hq
      obtain ⟨a12, c12, e12, k12, rfl, ra, rb, -, -, hc12, hb⟩ := hq.is_ok hI3.out
      clear hq u0 u1 u2 t0 t1 t2
      dsimp only [List.length_cons, List.length_nil, Nat.reduceAdd] at ra rb hc12 ⊢
      replace E0 := (((E0.step hb).addRow rb).addRow ra).box false a12 2 c12 e12 Q.length k12
      clear ra rb hb
      obtain ⟨⟨u0, u1, u2⟩, -, -, -⟩ := E0.getBox 3 rfl
      obtain ⟨⟨t0, t1, t2⟩, -, -, -⟩ := E0.getBox 0 rfl
      go_wp2_with fail
      refine (each2_any 1 false false a11 e11 a12 e12 [(m : Int), (n : Int)] P [(m : Int), (n : Int)] Q 2 c11 _ k11 2 c12 _ k12 _ (E0.getRow 4 rfl) (E0.getRow 5 rfl) (by simp [maxLen]) eP.out P64 rfl rfl (E0.getRow 1 rfl) (E0.getRow 2 rfl) (by simp [maxLen]) eQ.out Q64 rfl rfl).mono ?_
      intro e v13 hq
      obtain ⟨a13, c13, e13, k13, rfl, ra, rb, -, -, hc13, hb⟩ := hq.is_ok hI4.out
      clear hq u0 u1 u2 t0 t1 t2
      dsimp only [List.length_cons, List.length_nil, Nat.reduceAdd] at ra rb hc13 ⊢
      replace E0 := (((E0.step hb).addRow rb).addRow ra).box false a13 2 c13 e13 X.length k13
      clear ra rb hb
      obtain ⟨⟨u0, u1, u2⟩, -, -, -⟩ := E0.getBox 9 rfl
      obtain ⟨⟨t0, t1, t2⟩, -, -, -⟩ := E0.getBox 0 rfl
      go_wp2_with fail
      refine (alike_any false false a10 e10 a13 e13 [(m : Int), (n : Int)] X [(m : Int), (n : Int)] X 2 c10 _ k10 2 c13 _ k13 _ (E0.getRow 10 rfl) (E0.getRow 11 rfl) (by simp [maxLen]) eX.out rfl rfl (E0.getRow 1 rfl) (E0.getRow 2 rfl) (by simp [maxLen]) eX.out rfl rfl).mono ?_
      rintro e v14 ⟨rfl, hb⟩
      rw [decide_eq_true (rfl : (⟨false, [(m : Int), (n : Int)], X⟩ : Arr) = ⟨false, [(m : Int), (n : Int)], X⟩)]
      replace E0 := E0.step hb
      clear hb u0 u1 u2 t0 t1 t2
      go_wp2
      go_meet
      case rel => exact ((((((((((((E0.drop1).drop1).drop1).drop1).drop1).drop1).drop1).drop1).drop1).drop1).drop1).drop1)
  case rest =>
    replace E0 := hcut
    clear hcut
    obtain ⟨⟨u0, u1, u2⟩, -, -, -⟩ := E0.getBox 5 rfl
    obtain ⟨⟨t0, t1, t2⟩, -, -, -⟩ := E0.getBox 4 rfl
    obtain ⟨_, _, e, ca0⟩ := (E0.getRow 6 rfl) 0 (by simp)
    cases e
    obtain ⟨_, _, e, cb1⟩ := (E0.getRow 8 rfl) 1 (by simp)
    cases e
    simp only [List.getD_cons_zero, List.getD_cons_succ, Nat.add_zero] at ca0 cb1
    by_cases hnm : n = m
    case neg =>
      have t9 : ((n : Int) != (m : Int)) = true := by rw [bne_iff_ne]; omega
      have hbel := E0.bel
      replace hnm := Lib.hid hnm
      clear E0
      go_wp2
      go_quiet (fail)
      go_wp2
      go_ret
      exact ⟨rfl, below_drewN hbel _⟩
    subst hnm
    have t9 : ((n : Int) != (n : Int)) = false := by simp
    go_upto_region 18 with fail
    go_quiet (fail)
    generalize hW : World.drewN _ nq = W1 at *
    have E1 := E0.drew nq
    rw [hW] at E1
    replace hW := Lib.hid hW
    clear E0 u0 u1 u2 t0 t1 t2 ca0 cb1
    have E0 := E1
    clear E1
    obtain ⟨X, P, Q, hI1, hI2, hI3, hI4, ⟨P64, lP⟩, ⟨Q64, lQ⟩, lX⟩ := sum_right (by omega : p' ≤ 64) (by omega : n ≤ 64) (by omega : p ≤ 64) o0.out o1.out o2.out la.out lb.out lc'.out hs.out
    have hmul := Nat.mul_le_mul (show p' ≤ 16 by omega) (show p ≤ 16 by omega)
    have eX : X.length ≤ maxLen := by rw [lX]; unfold maxLen; omega
    have eP : P.length ≤ maxLen := by rw [lP]; unfold maxLen; omega
    have eQ : Q.length ≤ maxLen := by rw [lQ]; unfold maxLen; omega
    clear hmul lX lP lQ
    replace hI1 := Lib.hid hI1
    replace hI2 := Lib.hid hI2
    replace hI3 := Lib.hid hI3
    replace hI4 := Lib.hid hI4
    replace eX := Lib.hid eX
    replace eP := Lib.hid eP
    replace eQ := Lib.hid eQ
    obtain ⟨⟨u0, u1, u2⟩, -, -, -⟩ := E0.getBox 0 rfl
    obtain ⟨⟨t0, t1, t2⟩, -, -, -⟩ := E0.getBox 5 rfl
    go_wp2_with fail
    refine (inner_num 1 3 ⟨0, rfl⟩ false false rfl rfl a4 e4 (some ⟨ba, oa, none⟩) q0 [(p' : Int), (n : Int)] sL [(n : Int), (p : Int)] y0 2 c4 _ k4 2 c0 _ d0 _ (E0.getRow 1 rfl) (E0.getRow 2 rfl) (by simp [maxLen]) eS.out s64.out hc4 rfl rfl (E0.getRow 6 rfl) (E0.getRow 7 rfl) (by simp [maxLen]) m0.out o0.out z0.out rfl rfl).mono ?_
    intro e v10 hq
    obtain ⟨a10, c10, e10, k10, rfl, ra, rb, -, -, hc10, hb⟩ := hq.is_ok hI1.out
    clear hq u0 u1 u2 t0 t1 t2
    dsimp only [List.length_cons, List.length_nil, Nat.reduceAdd] at ra rb hc10 ⊢
    replace E0 := (((E0.step hb).addRow rb).addRow ra).box false a10 2 c10 e10 X.length k10
    clear ra rb hb
    obtain ⟨⟨u0, u1, u2⟩, -, -, -⟩ := E0.getBox 7 rfl
    obtain ⟨⟨t0, t1, t2⟩, -, -, -⟩ := E0.getBox 8 rfl
    go_wp2_with fail
    refine (inner_num 1 3 ⟨0, rfl⟩ false false rfl rfl (some ⟨bb, ob, none⟩) q1 (some ⟨ba, oa, none⟩) q0 [(p' : Int), (n : Int)] y1 [(n : Int), (p : Int)] y0 2 c1 _ d1 2 c0 _ d0 _ (E0.getRow 11 rfl) (E0.getRow 12 rfl) (by simp [maxLen]) m1.out o1.out z1.out rfl rfl (E0.getRow 9 rfl) (E0.getRow 10 rfl) (by simp [maxLen]) m0.out o0.out z0.out rfl rfl).mono ?_
    intro e v11 hq
    obtain ⟨a11, c11, e11, k11, rfl, ra, rb, -, -, hc11, hb⟩ := hq.is_ok hI2.out
    clear hq u0 u1 u2 t0 t1 t2
    dsimp only [List.length_cons, List.length_nil, Nat.reduceAdd] at ra rb hc11 ⊢
    replace E0 := (((E0.step hb).addRow rb).addRow ra).box false a11 2 c11 e11 P.length k11
    clear ra rb hb
    obtain ⟨⟨u0, u1, u2⟩, -, -, -⟩ := E0.getBox 9 rfl
    obtain ⟨⟨t0, t1, t2⟩, -, -, -⟩ := E0.getBox 11 rfl
    go_wp2_with fail
    refine (inner_num 1 3 ⟨0, rfl⟩ false false rfl rfl (some ⟨bc, oc, none⟩) q2 (some ⟨ba, oa, none⟩) q0 [(p' : Int), (n : Int)] y2 [(n : Int), (p : Int)] y0 2 c2 _ d2 2 c0 _ d0 _ (E0.getRow 16 rfl) (E0.getRow 17 rfl) (by simp [maxLen]) m2.out o2.out z2.out rfl rfl (E0.getRow 12 rfl) (E0.getRow 13 rfl) (by simp [maxLen]) m0.out o0.out z0.out rfl rfl).mono ?_
    intro e v12 hq
    obtain ⟨a12, c12, e12, k12, rfl, ra, rb, -, -, hc12, hb⟩ := hq.is_ok hI3.out
    clear hq u0 u1 u2 t0 t1 t2
    dsimp only [List.length_cons, List.length_nil, Nat.reduceAdd] at ra rb hc12 ⊢
    replace E0 := (((E0.step hb).addRow rb).addRow ra).box false a12 2 c12 e12 Q.length k12
    clear ra rb hb
    obtain ⟨⟨u0, u1, u2⟩, -, -, -⟩ := E0.getBox 3 rfl
    obtain ⟨⟨t0, t1, t2⟩, -, -, -⟩ := E0.getBox 0 rfl
    go_wp2_with fail
    refine (each2_any 1 false false a11 e11 a12 e12 [(p' : Int), (p : Int)] P [(p' : Int), (p : Int)] Q 2 c11 _ k11 2 c12 _ k12 _ (E0.getRow 4 rfl) (E0.getRow 5 rfl) (by simp [maxLen]) eP.out P64 rfl rfl (E0.getRow 1 rfl) (E0.getRow 2 rfl) (by simp [maxLen]) eQ.out Q64 rfl rfl).mono ?_
    intro e v13 hq
    obtain ⟨a13, c13, e13, k13, rfl, ra, rb, -, -, hc13, hb⟩ := hq.is_ok hI4.out
    clear hq u0 u1 u2 t0 t1 t2
    dsimp only [List.length_cons, List.length_nil, Nat.reduceAdd] at ra rb hc13 ⊢
    replace E0 := (((E0.step hb).addRow rb).addRow ra).box false a13 2 c13 e13 X.length k13
    clear ra rb hb
    obtain ⟨⟨u0, u1, u2⟩, -, -, -⟩ := E0.getBox 9 rfl
    obtain ⟨⟨t0, t1, t2⟩, -, -, -⟩ := E0.getBox 0 rfl
    go_wp2_with fail
    refine (alike_any false false a10 e10 a13 e13 [(p' : Int), (p : Int)] X [(p' : Int), (p : Int)] X 2 c10 _ k10 2 c13 _ k13 _ (E0.getRow 10 rfl) (E0.getRow 11 rfl) (by simp [maxLen]) eX.out rfl rfl (E0.getRow 1 rfl) (E0.getRow 2 rfl) (by simp [maxLen]) eX.out rfl rfl).mono ?_
    rintro e v14 ⟨rfl, hb⟩
    rw [decide_eq_true (rfl : (⟨false, [(p' : Int), (p : Int)], X⟩ : Arr) = ⟨false, [(p' : Int), (p : Int)], X⟩)]
    replace E0 := E0.step hb
    clear hb u0 u1 u2 t0 t1 t2
    go_wp2
    go_ret
    exact ⟨rfl, E0.bel⟩

end Go.Proofs.Ytohnimfjekemjaa
