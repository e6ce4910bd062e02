/- Squares being multiplied, added to, turned about: the states of the loops as whole-number squares. No program in sight, no condition. -/
import Derived.Test.YtohnimfjekemjaaSq
namespace Go.Proofs.Ytohnimfjekemjaa

/-- The product so far: the rows below i are told, of row i the places below j, of place (i, j) the first k products. -/
def tms (n : Nat) (A B : Nat → Nat → Int) (i j k a b : Nat) : Int :=
  if (a < i ∨ (a = i ∧ b < j)) ∧ b < n then Mx.mul n A B a b else if a = i ∧ b = j then Mx.S k (fun t => A i t * B t j) else 0
theorem tms_zero (n : Nat) (A B : Nat → Nat → Int) : tms n A B 0 0 0 = zeroM := by
  funext a b
  unfold tms zeroM
  rw [if_neg (by omega)]
  split <;> rfl
theorem tms_step (n : Nat) (A B : Nat → Nat → Int) (i j k : Nat) : put (tms n A B i j k) i j (tms n A B i j k i j + A i k * B k j) = tms n A B i j (k + 1) := by
  have e : ∀ k, tms n A B i j k i j = Mx.S k (fun t => A i t * B t j) := fun k => by unfold tms; rw [if_neg (by omega), if_pos ⟨rfl, rfl⟩]
  funext a b
  unfold put
  by_cases h : a = i ∧ b = j
  · rw [if_pos h, e, h.1, h.2, e]; rfl
  · rw [if_neg h]; unfold tms; rw [if_neg h, if_neg h]
theorem tms_next (n : Nat) (A B : Nat → Nat → Int) {i j : Nat} (hj : j < n) : tms n A B i j n = tms n A B i (j + 1) 0 := by
  funext a b
  unfold tms
  by_cases h : a = i ∧ b = j
  · rw [if_neg (by omega), if_pos h, if_pos (by omega), h.1, h.2]; rfl
  · rw [if_neg h]
    by_cases h2 : (a < i ∨ (a = i ∧ b < j)) ∧ b < n
    · rw [if_pos h2, if_pos (by omega)]
    · rw [if_neg h2, if_neg (by omega)]; split <;> rfl
theorem tms_row (n : Nat) (A B : Nat → Nat → Int) (i : Nat) : tms n A B i n 0 = tms n A B (i + 1) 0 0 := by
  funext a b
  unfold tms
  by_cases h2 : (a < i ∨ (a = i ∧ b < n)) ∧ b < n
  · rw [if_pos h2, if_pos (by omega)]
  · have h3 : ¬((a < i + 1 ∨ (a = i + 1 ∧ b < 0)) ∧ b < n) := by omega
    have e : ∀ t : Nat → Int, Mx.S 0 t = 0 := fun _ => rfl
    rw [if_neg h2, if_neg h3]
    simp only [e, ite_self]
/-- A square's product. -/
def timesM (n : Nat) (A B : Nat → Nat → Int) (a b : Nat) : Int := if a < n ∧ b < n then Mx.mul n A B a b else 0
theorem tms_end (n : Nat) (A B : Nat → Nat → Int) : tms n A B n 0 0 = timesM n A B := by
  funext a b
  unfold tms timesM
  by_cases h2 : a < n ∧ b < n
  · rw [if_pos (by omega), if_pos h2]
  · rw [if_neg (by omega), if_neg h2]; split <;> rfl

/-- Added to the diagonal's first k. -/
def plusM (A : Nat → Nat → Int) (k : Nat) (d : Int) (a b : Nat) : Int := if a = b ∧ a < k then A a b + d else A a b
theorem plus_zero (A : Nat → Nat → Int) (d : Int) : plusM A 0 d = A := by funext a b; unfold plusM; rw [if_neg (by omega)]
theorem plus_step (A : Nat → Nat → Int) (k : Nat) (d : Int) : put (plusM A k d) k k (plusM A k d k k + d) = plusM A (k + 1) d := by
  funext a b
  unfold put plusM
  by_cases h : a = k ∧ b = k
  · rw [if_pos h, if_neg (by omega), if_pos (by omega), h.1, h.2]
  · rw [if_neg h]
    by_cases h2 : a = b ∧ a < k
    · rw [if_pos h2, if_pos (by omega)]
    · rw [if_neg h2, if_neg (by omega)]
/-- The unit's first k, d-fold. -/
def unitM (k : Nat) (d : Int) (a b : Nat) : Int := if a = b ∧ a < k then d else 0
theorem unit_zero (d : Int) : unitM 0 d = zeroM := by funext a b; unfold unitM zeroM; rw [if_neg (by omega)]
theorem unit_step (k : Nat) (d : Int) : put (unitM k d) k k d = unitM (k + 1) d := by
  funext a b
  unfold put unitM
  by_cases h : a = k ∧ b = k
  · rw [if_pos h, if_pos (by omega)]
  · rw [if_neg h]
    by_cases h2 : a = b ∧ a < k
    · rw [if_pos h2, if_pos (by omega)]
    · rw [if_neg h2, if_neg (by omega)]
/-- The signs turned, of the rows below i and of row i the places below j. -/
def negM (n : Nat) (A : Nat → Nat → Int) (i j a b : Nat) : Int := if (a < i ∨ (a = i ∧ b < j)) ∧ b < n then -A a b else A a b
theorem neg_zeroM (n : Nat) (A : Nat → Nat → Int) : negM n A 0 0 = A := by funext a b; unfold negM; rw [if_neg (by omega)]
theorem neg_step (n : Nat) (A : Nat → Nat → Int) {i j : Nat} (hj : j < n) : put (negM n A i j) i j (-(negM n A i j i j)) = negM n A i (j + 1) := by
  funext a b
  unfold put negM
  by_cases h : a = i ∧ b = j
  · rw [if_pos h, if_neg (by omega), if_pos (by omega), h.1, h.2]
  · rw [if_neg h]
    by_cases h2 : (a < i ∨ (a = i ∧ b < j)) ∧ b < n
    · rw [if_pos h2, if_pos (by omega)]
    · rw [if_neg h2, if_neg (by omega)]
theorem neg_row (n : Nat) (A : Nat → Nat → Int) (i : Nat) : negM n A i n = negM n A (i + 1) 0 := by
  funext a b
  unfold negM
  by_cases h2 : (a < i ∨ (a = i ∧ b < n)) ∧ b < n
  · rw [if_pos h2, if_pos (by omega)]
  · rw [if_neg h2, if_neg (by omega)]

open Go.RowKit in
theorem sqAlloc3 (w : World) (a b c : Obj) : (((w.alloc a).alloc b).alloc c).heap[w.heap.size]? = some a ∧ (((w.alloc a).alloc b).alloc c).heap[w.heap.size + 1]? = some b ∧ (((w.alloc a).alloc b).alloc c).heap[w.heap.size + 1 + 1]? = some c ∧
    Below w.heap.size w (((w.alloc a).alloc b).alloc c) := by
  have s2 : ((w.alloc a).alloc b).heap.size = w.heap.size + 1 + 1 := by simp
  refine ⟨?_, ?_, ?_, (((Below.refl _ w).alloc (Nat.le_refl _) _).alloc (by simp) _).alloc (by rw [s2]; omega) _⟩
  · rw [heap_alloc_old _ _ (by rw [s2]; omega)]; exact heap_alloc2_old _ _ _
  · rw [heap_alloc_old _ _ (by rw [s2]; omega)]; exact heap_alloc2_new _ _ _
  · rw [← s2]; exact heap_alloc_new _ _
open Go.RowKit in
theorem sqAlloc4 (w : World) (a b c d : Obj) : ((((w.alloc a).alloc b).alloc c).alloc d).heap[w.heap.size]? = some a ∧ ((((w.alloc a).alloc b).alloc c).alloc d).heap[w.heap.size + 1]? = some b ∧ ((((w.alloc a).alloc b).alloc c).alloc d).heap[w.heap.size + 1 + 1]? = some c ∧
    ((((w.alloc a).alloc b).alloc c).alloc d).heap[w.heap.size + 1 + 1 + 1]? = some d ∧ Below w.heap.size w ((((w.alloc a).alloc b).alloc c).alloc d) := by
  have s3 : (((w.alloc a).alloc b).alloc c).heap.size = w.heap.size + 1 + 1 + 1 := by simp
  obtain ⟨h1, h2, h3, h4⟩ := sqAlloc3 w a b c
  refine ⟨?_, ?_, ?_, ?_, h4.alloc (by rw [s3]; omega) _⟩
  · rw [heap_alloc_old _ _ (by rw [s3]; omega)]; exact h1
  · rw [heap_alloc_old _ _ (by rw [s3]; omega)]; exact h2
  · rw [heap_alloc_old _ _ (by rw [s3]; omega)]; exact h3
  · rw [← s3]; exact heap_alloc_new _ _

end Go.Proofs.Ytohnimfjekemjaa
