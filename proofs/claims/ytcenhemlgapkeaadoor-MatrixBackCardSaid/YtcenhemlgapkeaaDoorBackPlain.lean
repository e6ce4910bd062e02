/- A matrix with its inverse, and the inverse's inverse, mod 2^64. No program in sight; the determinant is odd. -/
import Derived.Test.YtcenhemlgapkeaaDoorBdV
import Derived.Test.YtcenhemlgapkeaaDoorDiag
namespace Go.Proofs.YtcenhemlgapkeaaDoor
open Go.RowKit

theorem wrap_one : wrap64 1 = 1 := IntWalk.wrap64_in _ (by omega)
theorem inv_unit {D : Int} (h : wrap64 D % 2 = 1) : wrap64 (D * newts (wrap64 D) 6) = 1 := by
  have hs := newts_spec h
  rw [← wrap_mul_l]
  have e : wrap64 (wrap64 D * newts (wrap64 D) 6) = wrap64 1 := by
    rw [wrap_iff]
    omega
  rw [e]; exact wrap_one
theorem inv_r {n : Nat} (A : Nat → Nat → Int) (h : wrap64 (Mx.det n A) % 2 = 1) (i j : Nat) (hi : i < n) (hj : j < n) : wrap64 (Mx.mul n A (invM n A) i j) = if i = j then 1 else 0 := by
  have e : Mx.mul n A (invM n A) i j = Mx.mul n A (Mx.adj n A) i j * newts (wrap64 (Mx.det n A)) 6 := by
    unfold Mx.mul
    rw [← Mx.S_mulr]
    exact Mx.S_congr fun k _ => (Int.mul_assoc _ _ _).symm
  rw [e, Mx.mul_adj _ _ _ hi hj]
  by_cases c : i = j
  · rw [if_pos c, if_pos c]; exact inv_unit h
  · rw [if_neg c, if_neg c]; exact (congrArg wrap64 (Int.zero_mul _)).trans wrap_zero
theorem inv_l {n : Nat} (A : Nat → Nat → Int) (h : wrap64 (Mx.det n A) % 2 = 1) (i j : Nat) (hi : i < n) (hj : j < n) : wrap64 (Mx.mul n (invM n A) A i j) = if i = j then 1 else 0 := by
  have e : Mx.mul n (invM n A) A i j = Mx.mul n (Mx.adj n A) A i j * newts (wrap64 (Mx.det n A)) 6 := by
    unfold Mx.mul
    rw [← Mx.S_mulr]
    exact Mx.S_congr fun k _ => Int.mul_right_comm _ _ _
  rw [e, Mx.adj_mul _ _ _ hi hj]
  by_cases c : i = j
  · rw [if_pos c, if_pos c]; exact inv_unit h
  · rw [if_neg c, if_neg c]; exact (congrArg wrap64 (Int.zero_mul _)).trans wrap_zero
theorem back_r {n : Nat} (hn : n ≤ 6) {d : List Int} (h : d.length = n * n) (ho : wrap64 (Mx.det n (M.sqA n d)) % 2 = 1) :
    M.inner 1 3 ⟨false, [(n : Int), (n : Int)], d⟩ ⟨false, [(n : Int), (n : Int)], sqList n (invM n (M.sqA n d))⟩ = .ok ⟨false, [(n : Int), (n : Int)], diagL n 1⟩ := by
  rw [inner_sq hn h (sqList_length _ _)]
  congr 2
  unfold sqList diagL
  apply List.map_congr_left
  intro p hp
  have hp := List.mem_range.1 hp
  have hn0 : 0 < n := Nat.pos_of_ne_zero fun h => by subst h; simp at hp
  have hi : p / n < n := Nat.div_lt_of_lt_mul hp
  have hj : p % n < n := Nat.mod_lt _ hn0
  rw [mul_wrap (A' := M.sqA n d) (B' := invM n (M.sqA n d)) (fun _ _ => rfl) (fun t ht => by
    show wrap64 (M.sqA n (sqList n (invM n (M.sqA n d))) t (p % n)) = _
    rw [sqA_list _ ht hj, wrap_wrap]), inv_r _ ho _ _ hi hj]
theorem back_l {n : Nat} (hn : n ≤ 6) {d : List Int} (h : d.length = n * n) (ho : wrap64 (Mx.det n (M.sqA n d)) % 2 = 1) :
    M.inner 1 3 ⟨false, [(n : Int), (n : Int)], sqList n (invM n (M.sqA n d))⟩ ⟨false, [(n : Int), (n : Int)], d⟩ = .ok ⟨false, [(n : Int), (n : Int)], diagL n 1⟩ := by
  rw [inner_sq hn (sqList_length _ _) h]
  congr 2
  unfold sqList diagL
  apply List.map_congr_left
  intro p hp
  have hp := List.mem_range.1 hp
  have hn0 : 0 < n := Nat.pos_of_ne_zero fun h => by subst h; simp at hp
  have hi : p / n < n := Nat.div_lt_of_lt_mul hp
  have hj : p % n < n := Nat.mod_lt _ hn0
  rw [mul_wrap (A' := invM n (M.sqA n d)) (B' := M.sqA n d) (fun t ht => by
    show wrap64 (M.sqA n (sqList n (invM n (M.sqA n d))) (p / n) t) = _
    rw [sqA_list _ hi ht, wrap_wrap]) (fun _ _ => rfl), inv_l _ ho _ _ hi hj]
theorem inv_list_wrap {n : Nat} (A : Nat → Nat → Int) {i j : Nat} (hi : i < n) (hj : j < n) : wrap64 (M.sqA n (sqList n (invM n A)) i j) = wrap64 (invM n A i j) := by
  rw [sqA_list _ hi hj, wrap_wrap]
theorem odd_back {n : Nat} (A : Nat → Nat → Int) (ho : wrap64 (Mx.det n A) % 2 = 1) : wrap64 (Mx.det n (M.sqA n (sqList n (invM n A)))) % 2 = 1 := by
  rw [det_wrap n (fun i j hi hj => inv_list_wrap A hi hj)]
  have h1 : wrap64 (Mx.det n (Mx.mul n A (invM n A))) = wrap64 (Mx.det n (Mx.one (R := Int))) := det_wrap n fun i j hi hj => by
    rw [inv_r A ho i j hi hj]; unfold Mx.one
    by_cases c : i = j
    · simp only [if_pos c]; exact wrap_one.symm
    · simp only [if_neg c]; exact wrap_zero.symm
  rw [Mx.det_mul, Mx.det_one] at h1
  rw [wrap_iff] at h1
  have h2 : wrap64 (Mx.det n (invM n A)) % 2 = Mx.det n (invM n A) % 2 := by unfold wrap64; omega
  rw [h2]
  have h3 : (Mx.det n A * Mx.det n (invM n A)) % 2 = 1 := by
    have : (1 : Int) % 18446744073709551616 = 1 := rfl
    generalize Mx.det n A * Mx.det n (invM n A) = q at *
    have h1' : q % 18446744073709551616 = 1 := h1
    omega
  rcases Int.emod_two_eq (Mx.det n (invM n A)) with h | h
  · rw [Int.mul_emod, h, Int.mul_zero] at h3; exact absurd h3 (by decide)
  · exact h
theorem inv_inv {n : Nat} {d : List Int} (h : d.length = n * n) (h64 : All64 d) (ho : wrap64 (Mx.det n (M.sqA n d)) % 2 = 1) :
    sqList n (invM n (M.sqA n (sqList n (invM n (M.sqA n d))))) = d := by
  refine Eq.trans ?_ (sqList_self h h64)
  refine sqList_congr fun i j hi hj => ?_
  generalize hA : M.sqA n d = A at *
  have ho' := odd_back A ho
  have hB : ∀ i j, i < n → j < n → wrap64 (M.sqA n (sqList n (invM n A)) i j) = wrap64 (invM n A i j) := fun i j hi hj => inv_list_wrap A hi hj
  generalize M.sqA n (sqList n (invM n A)) = B at *
  -- X = 1 X = (A B) X = A (B X) = A 1 = A
  have hone : ∀ i j : Nat, wrap64 (Mx.one (R := Int) i j) = if i = j then 1 else 0 := fun i j => by
    unfold Mx.one
    by_cases c : i = j
    · simp only [if_pos c]; exact wrap_one
    · simp only [if_neg c]; exact wrap_zero
  have e1 : wrap64 (invM n B i j) = wrap64 (Mx.mul n (Mx.mul n A B) (invM n B) i j) := by
    rw [← Mx.mul_one_l hi (invM n B)]
    refine mul_wrap (fun k hk => ?_) (fun _ _ => rfl)
    rw [hone, mul_wrap (A' := A) (B' := invM n A) (fun _ _ => rfl) (fun t ht => hB t k ht hk), inv_r A ho i k hi hk]
  rw [e1, Mx.mul_mul]
  rw [mul_wrap (A' := A) (B' := Mx.one) (fun _ _ => rfl) (fun t ht => by rw [hone, inv_r B ho' t j ht hj]), Mx.mul_one_r hj]
end Go.Proofs.YtcenhemlgapkeaaDoor
