/- Powers of a square and products of squares either way round, as plain lists. No program in sight; at most six rows. -/
import Derived.Test.YtcenhemlgapkeaaDoorInnerSq
import Derived.Test.YtcenhemlgapkeaaDoorWkPower
import Derived.Test.YtcenhemlgapkeaaDoorWkMChar
namespace Go.Proofs.YtcenhemlgapkeaaDoor
open Go.RowKit

theorem sqA_list {n : Nat} (A : Nat → Nat → Int) {i j : Nat} (hi : i < n) (hj : j < n) : M.sqA n (sqList n A) i j = wrap64 (A i j) := by
  unfold M.sqA; rw [if_pos ⟨hi, hj⟩, sqList_get A hi hj]
theorem inner_pw {n : Nat} (hn : n ≤ 6) (A : Nat → Nat → Int) (j k : Nat) :
    M.inner 1 3 ⟨false, [(n : Int), (n : Int)], sqList n (Mx.pw n A j)⟩ ⟨false, [(n : Int), (n : Int)], sqList n (Mx.pw n A k)⟩ = .ok ⟨false, [(n : Int), (n : Int)], sqList n (Mx.pw n A (j + k))⟩ := by
  rw [inner_sq hn (sqList_length _ _) (sqList_length _ _)]
  congr 2
  refine sqList_congr fun i l hi hl => ?_
  rw [mul_wrap (A' := Mx.pw n A j) (B' := Mx.pw n A k) (fun t ht => by rw [sqA_list _ hi ht, wrap_wrap]) (fun t ht => by rw [sqA_list _ ht hl, wrap_wrap]), Mx.mul_pw n A j k i l hi]
theorem pw_once {n : Nat} {d : List Int} (h : d.length = n * n) (hd : All64 d) : sqList n (Mx.pw n (M.sqA n d) 1) = d := by
  rw [← sqList_self h hd]
  refine sqList_congr fun i j hi hj => ?_
  rw [Mx.pw_one hj, sqList_self h hd]

/-- One characteristic. -/
theorem charL_sylvester (n : Nat) (A B : Nat → Nat → Int) : charL n (M.sqA n (sqList n (Mx.mul n A B))) = charL n (M.sqA n (sqList n (Mx.mul n B A))) := by
  unfold charL
  apply List.map_congr_left
  intro j _
  have h1 := chi_wrap n (A := M.sqA n (sqList n (Mx.mul n A B))) (B := Mx.mul n A B) (fun i j hi hj => by rw [sqA_list _ hi hj, wrap_wrap]) (n - j)
  have h2 := chi_wrap n (A := M.sqA n (sqList n (Mx.mul n B A))) (B := Mx.mul n B A) (fun i j hi hj => by rw [sqA_list _ hi hj, wrap_wrap]) (n - j)
  rw [h1, h2, Mx.chi_sylvester]
/-- The diagonal's sum, so far. -/
def trL (n : Nat) (L : List Int) (i : Nat) : Int := wrap64 (Mx.S i fun k => M.sqA n L k k)
theorem trL_zero (n : Nat) (L : List Int) : trL n L 0 = 0 := wrap_id (by show I64 0; unfold I64; omega)
theorem trL_succ {n i : Nat} (L : List Int) (h : i < n) : wrap64 (trL n L i + L.getD (i * n + i) 0) = trL n L (i + 1) := by
  rw [sqA_get L h h]
  unfold trL
  rw [wrap_add_l]; rfl
theorem char_trace {n : Nat} (L : List Int) (h : 0 < n) : (charL n (M.sqA n L)).getD (n - 1) 0 = wrap64 (-trL n L n) := by
  rw [charL_get _ (by omega)]
  obtain ⟨m, rfl⟩ : ∃ m, n = m + 1 := ⟨n - 1, by omega⟩
  rw [show m + 1 - (m + 1 - 1) = 1 by omega, Mx.chi_trace]
  unfold trL
  rw [wrap_neg]
theorem char_first (n : Nat) (A : Nat → Nat → Int) : (charL n A).getD 0 0 = if n % 2 = 1 then wrap64 (-wrap64 (Mx.det n A)) else wrap64 (Mx.det n A) := by
  rw [charL_get _ (by omega), Nat.sub_zero, Mx.chi_top]
  unfold Mx.sg
  by_cases h : n % 2 = 0
  · rw [if_pos h, if_neg (by omega), Int.one_mul]
  · rw [if_neg h, if_pos (by omega), wrap_neg, Int.neg_mul, Int.one_mul]
end Go.Proofs.YtcenhemlgapkeaaDoor
