/- Determinants, products, powers of numbers that run round at 64 bits. No program in sight, no condition. -/
import Derived.Test.YtohnimfjekemjaaMx2
import Derived.Test.YtohnimfjekemjaaWrap
namespace Go.Proofs.Ytohnimfjekemjaa
open Go.RowKit

theorem S_wrap {n : Nat} {f g : Nat → Int} (h : ∀ i, i < n → wrap64 (f i) = wrap64 (g i)) : wrap64 (Mx.S n f) = wrap64 (Mx.S n g) := by
  induction n with
  | zero => rfl
  | succ n ih => exact wrap_congr_add (ih fun i hi => h i (by omega)) (h n (by omega))
theorem det_wrap (n : Nat) : ∀ {A B : Nat → Nat → Int}, (∀ i j, i < n → j < n → wrap64 (A i j) = wrap64 (B i j)) → wrap64 (Mx.det n A) = wrap64 (Mx.det n B) := by
  induction n with
  | zero => intro A B _; rfl
  | succ n ih =>
    intro A B h
    simp only [Mx.det]
    refine S_wrap fun j hj => wrap_congr_mul rfl (wrap_congr_mul (h n j (by omega) hj) (ih fun a b ha hb => h a _ (by omega) (by unfold Mx.sk; split <;> omega)))
theorem mul_wrap {n : Nat} {A A' B B' : Nat → Nat → Int} {i j : Nat} (hA : ∀ k, k < n → wrap64 (A i k) = wrap64 (A' i k)) (hB : ∀ k, k < n → wrap64 (B k j) = wrap64 (B' k j)) : wrap64 (Mx.mul n A B i j) = wrap64 (Mx.mul n A' B' i j) :=
  S_wrap fun k hk => wrap_congr_mul (hA k hk) (hB k hk)
theorem pw_wrap {n : Nat} {A B : Nat → Nat → Int} (h : ∀ i j, i < n → j < n → wrap64 (A i j) = wrap64 (B i j)) (k : Nat) : ∀ i j, i < n → j < n → wrap64 (Mx.pw n A k i j) = wrap64 (Mx.pw n B k i j) := by
  induction k with
  | zero => intro i j _ _; rfl
  | succ k ih => intro i j hi hj; exact mul_wrap (fun l hl => h i l hi hl) (fun l hl => ih l j hl hj)
/-- The adjugate. -/
theorem adj_wrap {n : Nat} {A B : Nat → Nat → Int} (h : ∀ i j, i < n → j < n → wrap64 (A i j) = wrap64 (B i j)) {i j : Nat} (hi : i < n) (hj : j < n) : wrap64 (Mx.adj n A i j) = wrap64 (Mx.adj n B i j) :=
  wrap_congr_mul rfl (det_wrap _ fun a b ha hb => h _ _ (by unfold Mx.sk; split <;> omega) (by unfold Mx.sk; split <;> omega))
/-- The characteristic, by sets of rows no: by Berkowitz' own steps. -/
theorem chi_wrap (n : Nat) : ∀ {A B : Nat → Nat → Int}, (∀ i j, i < n → j < n → wrap64 (A i j) = wrap64 (B i j)) → ∀ k, wrap64 ((Mx.chi n A).co k) = wrap64 ((Mx.chi n B).co k) := by
  induction n with
  | zero => intro A B _ k; rfl
  | succ n ih =>
    intro A B h k
    have hb : ∀ t i, i < n → wrap64 (Mx.bc n A t i) = wrap64 (Mx.bc n B t i) := by
      intro t
      induction t with
      | zero => intro i hi; exact h i n (by omega) (by omega)
      | succ t iht => intro i hi; exact S_wrap fun l hl => wrap_congr_mul (h i l (by omega) (by omega)) (iht l hl)
    have hf : ∀ t, wrap64 ((Mx.fst n A).co t) = wrap64 ((Mx.fst n B).co t) := by
      intro t
      match t with
      | 0 => rfl
      | 1 =>
        show wrap64 (-A n n) = wrap64 (-B n n)
        rw [← wrap_neg, h n n (by omega) (by omega), wrap_neg]
      | t + 2 =>
        show wrap64 (-Mx.S n _) = wrap64 (-Mx.S n _)
        rw [← wrap_neg, S_wrap fun i hi => wrap_congr_mul (h n i (by omega) (by omega)) (hb t i hi), wrap_neg]
    rw [Mx.chi_step, Mx.chi_step]
    refine S_wrap fun j _ => ?_
    split
    · exact wrap_congr_mul (hf _) (ih (fun i j hi hj => h i j (by omega) (by omega)) j)
    · rfl

end Go.Proofs.Ytohnimfjekemjaa
