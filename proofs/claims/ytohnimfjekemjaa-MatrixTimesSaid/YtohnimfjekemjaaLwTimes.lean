/- The walk of the law MatrixTimes: it returns true at all arrays and numbers. No condition. -/
import Derived.Test.YtohnimfjekemjaaWkMDet
import Derived.Test.YtohnimfjekemjaaWkInner
import Derived.Test.YtohnimfjekemjaaPowPlain
import Derived.Test.YtohnimfjekemjaaWkAlike
namespace Go.Proofs.Ytohnimfjekemjaa
open Go.RowKit

namespace M
def within (n lo hi : Int) : Bool := decide (lo ≤ n) && decide (n ≤ hi)
end M

set_option maxHeartbeats 1000000 in
theorem within_any (n lo hi : Int) (w : World) : Calls Try.prog 35 #[.int .i64 n, .int .i64 lo, .int .i64 hi] w fun e w' => e = .returned (.bool (M.within n lo hi)) ∧ w = w' := by
  cases h1 : decide (lo ≤ n) with
  | false =>
    have hr := Lib.hid (show M.within n lo hi = false by unfold M.within; rw [h1]; rfl)
    go_enter Try.func35, Try.ntmps35
    go_wp2
    go_ret
    exact ⟨by rw [hr.out]; rfl, rfl⟩
  | true =>
    have hr := Lib.hid (show M.within n lo hi = decide (n ≤ hi) by unfold M.within; rw [h1]; rfl)
    go_enter Try.func35, Try.ntmps35
    go_wp2
    go_ret
    exact ⟨by rw [hr.out]; rfl, rfl⟩

set_option maxRecDepth 20000 in
set_option maxHeartbeats 8000000 in
theorem matrixTimes_walk (b0 : Bool) (p0 q0 : Option Addr) (x0 y0 : List Int) (c0 d0 : Nat) (j k : Int) (w : World)
    (r0 : Row w p0 x0) (s0 : Row w q0 y0) (l0 : x0.length ≤ maxLen) (m0 : y0.length ≤ maxLen) (_ : All64 x0) (o0 : All64 y0) (z0 : x0.length ≤ c0) (_ : y0.length ≤ d0) (wj : I64 j) (wk : I64 k) :
    Calls Try.prog 13 #[arrV b0 p0 x0.length c0 q0 y0.length d0, .int .i64 j, .int .i64 k] w fun e w' => e = .returned (.bool true) ∧ Below w.heap.size w w' := by
  have E := (((Env.start w).addRow s0).addRow r0).box b0 p0 x0.length c0 q0 y0.length d0
  have hsa := fun w h => isSq_any b0 p0 q0 x0 y0 _ c0 _ d0 w h l0 m0 rfl rfl
  replace hsa := Lib.hid hsa
  cases hqa : M.isSq ⟨b0, x0, y0⟩ with
  | false =>
    replace hqa := Lib.hid hqa
    go_enter Try.func13, Try.ntmps13
    go_wp2_with fail
    refine (fact_any _).mono ?_
    rintro e v1 ⟨rfl, hb⟩
    replace E := E.step hb
    clear hb
    obtain ⟨⟨u0, u1, u2⟩, -, -, -⟩ := E.getBox 0 rfl
    go_wp2_with fail
    refine (hsa.out _ (E.getRow 1 rfl)).mono ?_
    rintro e v2 ⟨rfl, hb⟩
    rw [hqa.out]
    replace E := E.step hb
    clear hb u0 u1 u2
    go_wp2
    go_ret
    exact ⟨rfl, E.bel⟩
  | true =>
  cases hwj : M.within j 0 1099511627776 with
  | false =>
    replace hqa := Lib.hid hqa
    replace hwj := Lib.hid hwj
    go_enter Try.func13, Try.ntmps13
    go_wp2_with fail
    refine (fact_any _).mono ?_
    rintro e v1 ⟨rfl, hb⟩
    replace E := E.step hb
    clear hb
    obtain ⟨⟨u0, u1, u2⟩, -, -, -⟩ := E.getBox 0 rfl
    go_wp2_with fail
    refine (hsa.out _ (E.getRow 1 rfl)).mono ?_
    rintro e v2 ⟨rfl, hb⟩
    rw [hqa.out]
    replace E := E.step hb
    clear hb u0 u1 u2
    go_wp2_with fail
    refine (within_any _ _ _ _).mono ?_
    rintro e v3 ⟨rfl, rfl⟩
    rw [hwj.out]
    go_wp2
    go_ret
    exact ⟨rfl, E.bel⟩
  | true =>
  cases hwk : M.within k 0 1099511627776 with
  | false =>
    replace hqa := Lib.hid hqa
    replace hwj := Lib.hid hwj
    replace hwk := Lib.hid hwk
    go_enter Try.func13, Try.ntmps13
    go_wp2_with fail
    refine (fact_any _).mono ?_
    rintro e v1 ⟨rfl, hb⟩
    replace E := E.step hb
    clear hb
    obtain ⟨⟨u0, u1, u2⟩, -, -, -⟩ := E.getBox 0 rfl
    go_wp2_with fail
    refine (hsa.out _ (E.getRow 1 rfl)).mono ?_
    rintro e v2 ⟨rfl, hb⟩
    rw [hqa.out]
    replace E := E.step hb
    clear hb u0 u1 u2
    go_wp2_with fail
    refine (within_any _ _ _ _).mono ?_
    rintro e v3 ⟨rfl, rfl⟩
    rw [hwj.out]
    go_wp2_with fail
    refine (within_any _ _ _ _).mono ?_
    rintro e v3 ⟨rfl, rfl⟩
    rw [hwk.out]
    go_wp2
    go_ret
    exact ⟨rfl, E.bel⟩
  | true =>
    obtain ⟨n, hn, hx, hd⟩ := isSq_parts hqa
    rw [Arr.mk.injEq] at hx
    obtain ⟨rfl, rfl, -⟩ := hx
    dsimp only at hd
    have hf := sq_mk hn hd
    have hj := hwj
    have hk := hwk
    unfold M.within at hj hk
    simp only [Bool.and_eq_true, decide_eq_true_eq] at hj hk
    have hJK : I64 (j + k) := by unfold I64; omega
    have hm1 : M.mpower ⟨false, [(n : Int), (n : Int)], y0⟩ j = .ok ⟨false, [(n : Int), (n : Int)], sqList n (Mx.pw n (M.sqA n y0) j.toNat)⟩ := (if_pos hf).trans (if_neg (by omega))
    have hm2 : M.mpower ⟨false, [(n : Int), (n : Int)], y0⟩ k = .ok ⟨false, [(n : Int), (n : Int)], sqList n (Mx.pw n (M.sqA n y0) k.toNat)⟩ := (if_pos hf).trans (if_neg (by omega))
    have hm3 : M.mpower ⟨false, [(n : Int), (n : Int)], y0⟩ (j + k) = .ok ⟨false, [(n : Int), (n : Int)], sqList n (Mx.pw n (M.sqA n y0) (j.toNat + k.toNat))⟩ := ((if_pos hf).trans (if_neg (by omega))).trans (by rw [show (j + k).toNat = j.toNat + k.toNat by omega]; rfl)
    have hm4 : M.mpower ⟨false, [(n : Int), (n : Int)], y0⟩ 1 = .ok ⟨false, [(n : Int), (n : Int)], y0⟩ := ((if_pos hf).trans (if_neg (by omega))).trans (by
      show Except.ok (⟨false, [(n : Int), (n : Int)], sqList n (Mx.pw n (M.sqA n y0) 1)⟩ : Arr) = _
      rw [pw_once hd o0])
    have hin := inner_pw hn (M.sqA n y0) j.toNat k.toNat
    have q1 := sqList_i64 n (Mx.pw n (M.sqA n y0) j.toNat)
    have q2 := sqList_i64 n (Mx.pw n (M.sqA n y0) k.toNat)
    have hnn := Nat.mul_le_mul hn hn
    have e1 : (sqList n (Mx.pw n (M.sqA n y0) j.toNat)).length ≤ maxLen := by rw [sqList_length]; unfold maxLen; omega
    have e2 : (sqList n (Mx.pw n (M.sqA n y0) k.toNat)).length ≤ maxLen := by rw [sqList_length]; unfold maxLen; omega
    have e3 : (sqList n (Mx.pw n (M.sqA n y0) (j.toNat + k.toNat))).length ≤ maxLen := by rw [sqList_length]; unfold maxLen; omega
    generalize sqList n (Mx.pw n (M.sqA n y0) (j.toNat + k.toNat)) = L3 at *
    generalize sqList n (Mx.pw n (M.sqA n y0) j.toNat) = L1 at *
    generalize sqList n (Mx.pw n (M.sqA n y0) k.toNat) = L2 at *
    have hpow := fun (k : Int) (hk : I64 k) w h1 h2 => mpower_any k false p0 q0 [(n : Int), (n : Int)] y0 _ c0 _ d0 w h1 h2 l0 m0 o0 hk rfl rfl
    have i1 : I64 1 := by unfold I64; omega
    clear hnn hf
    replace hpow := Lib.hid hpow
    replace hm1 := Lib.hid hm1
    replace hm2 := Lib.hid hm2
    replace hm3 := Lib.hid hm3
    replace hm4 := Lib.hid hm4
    replace hin := Lib.hid hin
    replace hqa := Lib.hid hqa
    replace hwj := Lib.hid hwj
    replace hwk := Lib.hid hwk
    replace hd := Lib.hid hd
    go_enter Try.func13, Try.ntmps13
    go_wp2_with fail
    refine (fact_any _).mono ?_
    rintro e v1 ⟨rfl, hb⟩
    replace E := E.step hb
    clear hb
    obtain ⟨⟨u0, u1, u2⟩, -, -, -⟩ := E.getBox 0 rfl
    go_wp2_with fail
    refine (hsa.out _ (E.getRow 1 rfl)).mono ?_
    rintro e v2 ⟨rfl, hb⟩
    rw [hqa.out]
    replace E := E.step hb
    clear hb u0 u1 u2
    go_wp2_with fail
    refine (within_any _ _ _ _).mono ?_
    rintro e v3 ⟨rfl, rfl⟩
    rw [hwj.out]
    go_wp2_with fail
    refine (within_any _ _ _ _).mono ?_
    rintro e v3 ⟨rfl, rfl⟩
    rw [hwk.out]
    obtain ⟨⟨u0, u1, u2⟩, -, -, -⟩ := E.getBox 0 rfl
    go_wp2_with fail
    refine (hpow.out _ wj _ (E.getRow 1 rfl) (E.getRow 2 rfl)).mono ?_
    intro e v4 hp
    obtain ⟨a4, c4, b4, k4, rfl, ra, rb, -, -, hc4, hb⟩ := hp.is_ok hm1.out
    clear hp u0 u1 u2
    dsimp only [List.length_cons, List.length_nil, Nat.reduceAdd] at ra rb hc4 ⊢
    replace E := (((E.step hb).addRow rb).addRow ra).box false a4 2 c4 b4 L1.length k4
    clear ra rb hb
    obtain ⟨⟨u0, u1, u2⟩, -, -, -⟩ := E.getBox 3 rfl
    go_wp2_with fail
    refine (hpow.out _ wk _ (E.getRow 4 rfl) (E.getRow 5 rfl)).mono ?_
    intro e v5 hp
    obtain ⟨a5, c5, b5, k5, rfl, ra, rb, -, -, hc5, hb⟩ := hp.is_ok hm2.out
    clear hp u0 u1 u2
    dsimp only [List.length_cons, List.length_nil, Nat.reduceAdd] at ra rb hc5 ⊢
    replace E := (((E.step hb).addRow rb).addRow ra).box false a5 2 c5 b5 L2.length k5
    clear ra rb hb
    obtain ⟨⟨u0, u1, u2⟩, -, -, -⟩ := E.getBox 3 rfl
    obtain ⟨⟨t0, t1, t2⟩, -, -, -⟩ := E.getBox 0 rfl
    go_wp2_with fail
    refine (inner_num 1 3 ⟨0, rfl⟩ false false rfl rfl a4 b4 a5 b5 [(n : Int), (n : Int)] L1 [(n : Int), (n : Int)] L2 2 c4 _ k4 2 c5 _ k5 _ (E.getRow 4 rfl) (E.getRow 5 rfl) (by simp [maxLen]) e1 q1 hc4 rfl rfl (E.getRow 1 rfl) (E.getRow 2 rfl) (by simp [maxLen]) e2 q2 hc5 rfl rfl).mono ?_
    intro e v6 hp
    obtain ⟨a6, c6, b6, k6, rfl, ra, rb, -, -, hc6, hb⟩ := hp.is_ok hin.out
    clear hp u0 u1 u2 t0 t1 t2
    dsimp only [List.length_cons, List.length_nil, Nat.reduceAdd] at ra rb hc6 ⊢
    replace E := (((E.step hb).addRow rb).addRow ra).box false a6 2 c6 b6 L3.length k6
    clear ra rb hb
    obtain ⟨⟨u0, u1, u2⟩, -, -, -⟩ := E.getBox 9 rfl
    have wjk : IntKind.i64.wrap (j + k) = j + k := by rw [IntWalk.i64_left]; exact wrap_id hJK
    go_wp2_with fail
    refine (hpow.out _ hJK _ (E.getRow 10 rfl) (E.getRow 11 rfl)).mono ?_
    intro e v7 hp
    obtain ⟨a7, c7, b7, k7, rfl, ra, rb, -, -, hc7, hb⟩ := hp.is_ok hm3.out
    clear hp u0 u1 u2
    dsimp only [List.length_cons, List.length_nil, Nat.reduceAdd] at ra rb hc7 ⊢
    replace E := (((E.step hb).addRow rb).addRow ra).box false a7 2 c7 b7 L3.length k7
    clear ra rb hb
    obtain ⟨⟨u0, u1, u2⟩, -, -, -⟩ := E.getBox 3 rfl
    obtain ⟨⟨t0, t1, t2⟩, -, -, -⟩ := E.getBox 0 rfl
    go_wp2_with fail
    refine (alike_any false false a6 b6 a7 b7 [(n : Int), (n : Int)] L3 [(n : Int), (n : Int)] L3 2 c6 _ k6 2 c7 _ k7 _ (E.getRow 4 rfl) (E.getRow 5 rfl) (by simp [maxLen]) e3 rfl rfl (E.getRow 1 rfl) (E.getRow 2 rfl) (by simp [maxLen]) e3 rfl rfl).mono ?_
    rintro e v8 ⟨rfl, hb⟩
    rw [decide_eq_true (rfl : (⟨false, [(n : Int), (n : Int)], L3⟩ : Arr) = ⟨false, [(n : Int), (n : Int)], L3⟩)]
    replace E := E.step hb
    clear hb u0 u1 u2 t0 t1 t2
    obtain ⟨⟨u0, u1, u2⟩, -, -, -⟩ := E.getBox 12 rfl
    go_wp2_with fail
    refine (hpow.out _ i1 _ (E.getRow 13 rfl) (E.getRow 14 rfl)).mono ?_
    intro e v9 hp
    obtain ⟨a9, c9, b9, k9, rfl, ra, rb, -, -, hc9, hb⟩ := hp.is_ok hm4.out
    clear hp u0 u1 u2
    dsimp only [List.length_cons, List.length_nil, Nat.reduceAdd] at ra rb hc9 ⊢
    replace E := (((E.step hb).addRow rb).addRow ra).box false a9 2 c9 b9 y0.length k9
    clear ra rb hb
    obtain ⟨⟨u0, u1, u2⟩, -, -, -⟩ := E.getBox 15 rfl
    obtain ⟨⟨t0, t1, t2⟩, -, -, -⟩ := E.getBox 0 rfl
    go_wp2_with fail
    refine (alike_any false false a9 b9 p0 q0 [(n : Int), (n : Int)] y0 [(n : Int), (n : Int)] y0 2 c9 _ k9 _ c0 _ d0 _ (E.getRow 1 rfl) (E.getRow 2 rfl) (by simp [maxLen]) m0 rfl rfl (E.getRow 16 rfl) (E.getRow 17 rfl) (by simp [maxLen]) m0 rfl rfl).mono ?_
    rintro e va ⟨rfl, hb⟩
    rw [decide_eq_true (rfl : (⟨false, [(n : Int), (n : Int)], y0⟩ : Arr) = ⟨false, [(n : Int), (n : Int)], y0⟩)]
    replace E := E.step hb
    clear hb u0 u1 u2 t0 t1 t2
    go_wp2
    go_ret
    exact ⟨rfl, E.bel⟩

end Go.Proofs.Ytohnimfjekemjaa
