/- Where one comes in so many steps at most; in as many as there are things it is where one comes at last. No program in sight; no condition. -/
import Derived.Test.YtiebknfmmanbiaaDoorRe2
namespace Go.Proofs.YtiebknfmmanbiaaDoor.Re

/-- Where one comes in 1 to t steps. -/
def cl (n : Nat) (F : Nat → Nat → Bool) : Nat → Nat → Nat → Bool
  | 0, _, _ => false
  | t + 1, i, j => (F i j || cl n F t i j) || (List.range n).any fun k => F i k && cl n F t k j
theorem cl_iff {n : Nat} {F : Nat → Nat → Bool} {t i j : Nat} : cl n F (t + 1) i j = true ↔ F i j = true ∨ cl n F t i j = true ∨ ∃ k, k < n ∧ F i k = true ∧ cl n F t k j = true := by
  simp only [cl, Bool.or_eq_true, List.any_eq_true, List.mem_range, Bool.and_eq_true, or_assoc]
theorem cl_up {n : Nat} {F : Nat → Nat → Bool} {t i j : Nat} (h : cl n F t i j = true) : cl n F (t + 1) i j = true := cl_iff.2 (.inr (.inl h))
theorem cl_mono {n : Nat} {F : Nat → Nat → Bool} {t u i j : Nat} (hu : t ≤ u) (h : cl n F t i j = true) : cl n F u i j = true := by
  obtain ⟨d, rfl⟩ : ∃ d, u = t + d := ⟨u - t, by omega⟩
  induction d with
  | zero => exact h
  | succ d ih => exact cl_up (ih (by omega))
theorem cl_one {n : Nat} {F : Nat → Nat → Bool} {t i j : Nat} (h : F i j = true) : cl n F (t + 1) i j = true := cl_iff.2 (.inl h)
theorem cl_in {n : Nat} {F : Nat → Nat → Bool} : ∀ {t i j : Nat}, cl n F t i j = true → clo n F i j = true := by
  intro t
  induction t with
  | zero => intro i j h; cases h
  | succ t ih =>
    intro i j h
    rcases cl_iff.1 h with h | h | ⟨k, hk, h1, h2⟩
    · exact clo_le h
    · exact ih h
    · exact clo_trans hk (clo_le h1) (ih h2)
theorem cl_trans {n : Nat} {F : Nat → Nat → Bool} {u m j : Nat} (hm : m < n) : ∀ {t i : Nat}, cl n F t i m = true → cl n F u m j = true → cl n F (t + u) i j = true := by
  intro t
  induction t with
  | zero => intro i h _; cases h
  | succ t ih =>
    intro i h hu
    rw [show t + 1 + u = t + u + 1 by omega]
    rcases cl_iff.1 h with h | h | ⟨k, hk, h1, h2⟩
    · exact cl_iff.2 (.inr (.inr ⟨m, hm, h, cl_mono (by omega) hu⟩))
    · exact cl_up (ih h hu)
    · exact cl_iff.2 (.inr (.inr ⟨k, hk, h1, ih h2 hu⟩))
theorem cl_lvl {n : Nat} {F : Nat → Nat → Bool} {o : Nat} : ∀ {k j : Nat}, lvl n F o k j = true → j = o ∨ cl n F k o j = true := by
  intro k
  induction k with
  | zero => intro j h; exact .inl (by simpa [lvl] using h)
  | succ k ih =>
    intro j h
    rcases lvl_succ.1 h with h | ⟨i, hi, h1, h2⟩
    · rcases ih h with h | h
      · exact .inl h
      · exact .inr (cl_up h)
    · rcases ih h1 with rfl | h3
      · exact .inr (cl_one h2)
      · exact .inr (cl_trans hi h3 (cl_one (t := 0) h2))
theorem clo_step {n : Nat} {F : Nat → Nat → Bool} {i j : Nat} (hi : i < n) (hj : j < n) (h : clo n F i j = true) : F i j = true ∨ ∃ k, k < n ∧ F i k = true ∧ clo n F k j = true := by
  have := clo_least (n := n) (E := F) (fun i j => F i j || (List.range n).any fun k => F i k && clo n F k j) (fun i j _ _ h => by rw [h]; rfl) (by
    intro i m j _ hm hj h1 h2
    have c2 : clo n F m j = true := by
      rcases Bool.or_eq_true_iff.1 h2 with h | h
      · exact clo_le h
      · obtain ⟨k, hk, h⟩ := List.any_eq_true.1 h
        rw [Bool.and_eq_true] at h
        exact clo_trans (List.mem_range.1 hk) (clo_le h.1) h.2
    rw [Bool.or_eq_true_iff, List.any_eq_true]
    rcases Bool.or_eq_true_iff.1 h1 with h | h
    · exact .inr ⟨m, List.mem_range.2 hm, by rw [h, c2]; rfl⟩
    · obtain ⟨k, hk, h⟩ := List.any_eq_true.1 h
      rw [Bool.and_eq_true] at h
      exact .inr ⟨k, hk, by rw [h.1, clo_trans hm h.2 c2]; rfl⟩) hi hj h
  rcases Bool.or_eq_true_iff.1 this with h | h
  · exact .inl h
  · obtain ⟨k, hk, h⟩ := List.any_eq_true.1 h
    rw [Bool.and_eq_true] at h
    exact .inr ⟨k, List.mem_range.1 hk, h.1, h.2⟩
theorem cl_far {n : Nat} {F : Nat → Nat → Bool} {i j : Nat} (hi : i < n) (hj : j < n) (hne : j ≠ i) (h : clo n F i j = true) : cl n F (n - 1) i j = true := by
  obtain ⟨k, hk⟩ := (lvl_clo hi hj hne).2 h
  rcases cl_lvl (lvl_stop hi j hj k hk) with h | h
  · exact absurd h hne
  · exact h
/-- In n steps: at last. -/
theorem cl_all {n : Nat} {F : Nat → Nat → Bool} {i j : Nat} (hi : i < n) (hj : j < n) : cl n F n i j = clo n F i j := by
  rw [Bool.eq_iff_iff]
  refine ⟨cl_in, fun h => ?_⟩
  by_cases hne : j = i
  · subst hne
    obtain ⟨q, rfl⟩ : ∃ q, n = q + 1 := ⟨n - 1, by omega⟩
    rcases clo_step hi hj h with h | ⟨k, hk, h1, h2⟩
    · exact cl_one h
    · by_cases hk' : k = j
      · subst hk'; exact cl_one h1
      · exact cl_iff.2 (.inr (.inr ⟨k, hk, h1, cl_far hk hj (fun e => hk' e.symm) h2⟩))
  · exact cl_mono (by omega) (cl_far hi hj hne h)
end Go.Proofs.YtiebknfmmanbiaaDoor.Re
