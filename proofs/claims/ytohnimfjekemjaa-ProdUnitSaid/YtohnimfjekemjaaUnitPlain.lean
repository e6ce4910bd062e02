/- What changes nothing: each index held against each is the matrix by which a matrix stays. Condition: at most 64 rows. -/
import Derived.Test.YtohnimfjekemjaaWkOuter
import Derived.Test.YtohnimfjekemjaaWkIota
namespace Go.Proofs.Ytohnimfjekemjaa
open Go.RowKit

def eqF (a b : Int) : Int := M.bit (a == b)
theorem eqF_two (a b : Int) (_ : I64 a) (_ : I64 b) : M.two 8 a b = .ok (eqF a b) := rfl
def unL (n : Nat) : List Int := outL eqF (upTo n) (upTo n) (n * n)
theorem unL_length (n : Nat) : (unL n).length = n * n := outL_length _ _ _ _
theorem upTo_get {n i : Nat} (h : i < n) : (upTo n).getD i 0 = (i : Int) := by
  rw [List.getD_eq_getElem?_getD]; simp [upTo, h]
theorem upTo_i64 {n : Nat} (h : n ≤ 64) : All64 (upTo n) := fun x hx => by
  obtain ⟨i, hi, rfl⟩ := List.mem_map.1 hx
  have := List.mem_range.1 hi
  unfold I64; omega
theorem iota_upTo {n : Nat} (h : n ≤ 64) : M.iota (n : Int) = .ok ⟨false, [(n : Int)], upTo n⟩ := by
  unfold M.iota
  rw [if_neg (by omega), if_neg (by omega), Int.toNat_natCast]
  rfl
theorem unL_i64 (n : Nat) : All64 (unL n) := fun x hx => by
  obtain ⟨q, _, rfl⟩ := List.mem_map.1 hx
  unfold outG eqF M.bit
  split <;> (unfold I64; omega)
theorem unL_at {n i j : Nat} (hi : i < n) (hj : j < n) : (unL n).getD (i * n + j) 0 = if i = j then 1 else 0 := by
  obtain ⟨h1, h2, h3⟩ := mat_place hi hj
  have e : (unL n).getD (i * n + j) 0 = outG eqF (upTo n) (upTo n) (i * n + j) := by
    rw [List.getD_eq_getElem?_getD]; simp [unL, outL, h1]
  rw [e]
  unfold outG eqF M.bit
  rw [upTo_length, h2, h3, upTo_get hi, upTo_get hj]
  by_cases h : i = j
  · rw [h]; simp
  · rw [if_neg h, if_neg]; simp; omega

def dlt (i j : Nat) : Z6 := ⟨if i = j then 1 else 0, by split <;> (unfold I64; omega)⟩
theorem mul_dlt_l (i j : Nat) (x : Z6) : srAdd.mu (dlt i j) x = if j = i then x else srAdd.z := by
  by_cases h : i = j
  · rw [if_pos h.symm]; refine Subtype.ext ?_
    show wrap64 ((if i = j then 1 else 0) * x.1) = x.1
    rw [if_pos h, Int.one_mul]; exact wrap_id x.2
  · rw [if_neg (fun e => h e.symm)]; refine Subtype.ext ?_
    show wrap64 ((if i = j then 1 else 0) * x.1) = 0
    rw [if_neg h, Int.zero_mul]; exact wrap_id (by unfold I64; omega)
theorem SR.sm_one (R : SR) {n i : Nat} (hi : i < n) (B : Nat → Z6) : R.sm n (fun j => if j = i then B j else R.z) = B i := by
  induction n with
  | zero => omega
  | succ n ih =>
    show R.ad (R.sm n fun j => if j = i then B j else R.z) (if n = i then B n else R.z) = B i
    by_cases h : n = i
    · rw [if_pos h, R.sm_congr (G := fun _ => R.z) (fun j hj => if_neg (by omega)), R.sm_zero, R.za, h]
    · rw [if_neg h, ih (by omega), R.az]
theorem unL_matA {n : Nat} (h : All64 (unL n)) {i j : Nat} (hi : i < n) (hj : j < n) : matA n h i j = dlt i j := Subtype.ext (unL_at hi hj)

theorem inner_unit_l {m p : Nat} (hm : m ≤ 64) (hp : p ≤ 64) {y : List Int} (hy : All64 y) (ly : y.length = m * p) :
    M.inner 1 3 ⟨false, [(m : Int), (m : Int)], unL m⟩ ⟨false, [(m : Int), (p : Int)], y⟩ = .ok ⟨false, [(m : Int), (p : Int)], y⟩ := by
  rw [inner_sr srAdd srAdd_of hm hm hp (unL_i64 m) hy (unL_length m) ly]
  congr 2
  refine (matL_congr fun i l hi hl => ?_).trans (matL_self ly hy)
  unfold SR.mm
  rw [srAdd.sm_congr (G := fun j => if j = i then matA p hy j l else srAdd.z) (fun j hj => by rw [unL_matA _ hi hj, mul_dlt_l]), srAdd.sm_one hi]
theorem inner_unit_r {m p : Nat} (hm : m ≤ 64) (hp : p ≤ 64) {y : List Int} (hy : All64 y) (ly : y.length = m * p) :
    M.inner 1 3 ⟨false, [(m : Int), (p : Int)], y⟩ ⟨false, [(p : Int), (p : Int)], unL p⟩ = .ok ⟨false, [(m : Int), (p : Int)], y⟩ := by
  rw [inner_sr srAdd srAdd_of hm hp hp hy (unL_i64 p) ly (unL_length p)]
  congr 2
  refine (matL_congr fun i l hi hl => ?_).trans (matL_self ly hy)
  unfold SR.mm
  have e : ∀ j, dlt j l = dlt l j := fun j => Subtype.ext (by show (if j = l then (1 : Int) else 0) = if l = j then 1 else 0; by_cases h : j = l; (· rw [if_pos h, if_pos h.symm]); (· rw [if_neg h, if_neg (fun e => h e.symm)]))
  rw [srAdd.sm_congr (G := fun j => if j = l then matA p hy i j else srAdd.z) (fun j hj => by rw [unL_matA _ hj hl, srAdd.mc, e j, mul_dlt_l]), srAdd.sm_one hl]
end Go.Proofs.Ytohnimfjekemjaa
