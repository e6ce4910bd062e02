/- The states of the loops of square.characteristic, as rows of whole numbers. No program in sight, no condition. -/
import Derived.Test.YtcenhemlgapkeaaDoorBdQ
import Derived.Test.YtcenhemlgapkeaaDoorSqRow
namespace Go.Proofs.YtcenhemlgapkeaaDoor
open Go.RowKit

theorem wrap_mac (s a b : Int) : wrap64 (wrap64 s + wrap64 (wrap64 a * wrap64 b)) = wrap64 (s + a * b) := by
  rw [wrap_add_l, wrap_add_r, ← wrap_add_r, wrap_mul_l, wrap_mul_r, wrap_add_r]

theorem S_none (f : Nat → Int) : Mx.S 0 f = 0 := rfl
theorem S_next (n : Nat) (f : Nat → Int) : Mx.S (n + 1) f = Mx.S n f + f n := rfl

/-- The column's first i. -/
def colF (A : Nat → Nat → Int) (k i a : Nat) : Int := if a < i then A a k else 0
theorem colF_zero (A : Nat → Nat → Int) (k : Nat) : colF A k 0 = fun _ => 0 := by funext a; exact if_neg (by omega)
theorem colF_step (A : Nat → Nat → Int) (k i : Nat) : putR (colF A k i) i (A i k) = colF A k (i + 1) := by
  funext a
  unfold putR colF
  by_cases h : a = i
  · subst h; rw [if_pos rfl, if_pos (by omega)]
  · rw [if_neg h]
    by_cases h2 : a < i
    · rw [if_pos h2, if_pos (by omega)]
    · rw [if_neg h2, if_neg (by omega)]
theorem colF_end (A : Nat → Nat → Int) (k : Nat) : rowCells k (colF A k k) = rowCells k (Mx.bc k A 0) := row_congr fun i hi => if_pos hi

/-- The next column's first i, and of the next one the first j products. -/
def nxF (k : Nat) (A : Nat → Nat → Int) (t i j a : Nat) : Int := if a < i then Mx.bc k A (t + 1) a else if a = i then Mx.S j (fun l => A i l * Mx.bc k A t l) else 0
theorem nxF_zero (k : Nat) (A : Nat → Nat → Int) (t : Nat) : nxF k A t 0 0 = fun _ => 0 := by
  funext a; unfold nxF; rw [if_neg (by omega)]; split <;> rfl
theorem nxF_at (k : Nat) (A : Nat → Nat → Int) (t i j : Nat) : nxF k A t i j i = Mx.S j (fun l => A i l * Mx.bc k A t l) := by
  unfold nxF; rw [if_neg (by omega), if_pos rfl]
theorem nxF_step (k : Nat) (A : Nat → Nat → Int) (t i j : Nat) : putR (nxF k A t i j) i (nxF k A t i j i + A i j * Mx.bc k A t j) = nxF k A t i (j + 1) := by
  funext a
  unfold putR
  by_cases h : a = i
  · subst h; rw [if_pos rfl, nxF_at, nxF_at]; rfl
  · rw [if_neg h]; unfold nxF; rw [if_neg h, if_neg h]
theorem nxF_next (k : Nat) (A : Nat → Nat → Int) (t i : Nat) : nxF k A t i k = nxF k A t (i + 1) 0 := by
  funext a
  unfold nxF
  by_cases h : a < i
  · rw [if_pos h, if_pos (by omega)]
  · rw [if_neg h]
    by_cases h2 : a = i
    · subst h2; rw [if_pos rfl, if_pos (by omega)]; rfl
    · rw [if_neg h2, if_neg (by omega)]; split <;> rfl
theorem nxF_end (k : Nat) (A : Nat → Nat → Int) (t : Nat) : rowCells k (nxF k A t k 0) = rowCells k (Mx.bc k A (t + 1)) := row_congr fun i hi => if_pos hi

/-- The next polynomial's first i, and of the next one the first j products. -/
def ouF (k : Nat) (A : Nat → Nat → Int) (i j a : Nat) : Int :=
  if a < i then (Mx.chi (k + 1) A).co a else if a = i then Mx.S j (fun l => if l ≤ i then (Mx.fst k A).co (i - l) * (Mx.chi k A).co l else 0) else 0
theorem ouF_zero (k : Nat) (A : Nat → Nat → Int) : ouF k A 0 0 = fun _ => 0 := by
  funext a; unfold ouF; rw [if_neg (by omega)]; split <;> rfl
theorem ouF_at (k : Nat) (A : Nat → Nat → Int) (i j : Nat) : ouF k A i j i = Mx.S j (fun l => if l ≤ i then (Mx.fst k A).co (i - l) * (Mx.chi k A).co l else 0) := by
  unfold ouF; rw [if_neg (by omega), if_pos rfl]
theorem ouF_step (k : Nat) (A : Nat → Nat → Int) {i j : Nat} (hj : j ≤ i) : putR (ouF k A i j) i (ouF k A i j i + (Mx.fst k A).co (i - j) * (Mx.chi k A).co j) = ouF k A i (j + 1) := by
  funext a
  unfold putR
  by_cases h : a = i
  · subst h; rw [if_pos rfl, ouF_at, ouF_at, S_next, if_pos hj]
  · rw [if_neg h]; unfold ouF; rw [if_neg h, if_neg h]
theorem ouF_skip (k : Nat) (A : Nat → Nat → Int) {i j : Nat} (hj : i < j) : ouF k A i j = ouF k A i (j + 1) := by
  funext a
  unfold ouF
  rw [S_next, if_neg (show ¬ j ≤ i by omega), Int.add_zero]
theorem ouF_next (k : Nat) (A : Nat → Nat → Int) (i : Nat) : ouF k A i (k + 1) = ouF k A (i + 1) 0 := by
  funext a
  unfold ouF
  by_cases h : a < i
  · rw [if_pos h, if_pos (by omega)]
  · rw [if_neg h]
    by_cases h2 : a = i
    · subst h2; rw [if_pos rfl, if_pos (by omega), Mx.chi_step]
    · rw [if_neg h2, if_neg (by omega)]; split <;> rfl
theorem ouF_end (k : Nat) (A : Nat → Nat → Int) : rowCells (k + 2) (ouF k A (k + 2) 0) = rowCells (k + 1 + 1) (Mx.chi (k + 1) A).co := row_congr fun i hi => if_pos hi

/-- Berkowitz' first column, its first m. -/
def fstL (k : Nat) (A : Nat → Nat → Int) (m : Nat) : List Int := (List.range m).map fun i => wrap64 ((Mx.fst k A).co i)
theorem fstL_length (k : Nat) (A : Nat → Nat → Int) (m : Nat) : (fstL k A m).length = m := by simp [fstL]
theorem fstL_succ (k : Nat) (A : Nat → Nat → Int) (m : Nat) : fstL k A (m + 1) = fstL k A m ++ [wrap64 ((Mx.fst k A).co m)] := by simp [fstL, List.range_succ]
theorem fstL_two (k : Nat) (A : Nat → Nat → Int) : fstL k A 2 = [1, wrap64 (-wrap64 (A k k))] := by
  have h1 : wrap64 1 = 1 := wrap_id (by unfold I64; omega)
  have e0 : (Mx.fst k A).co 0 = 1 := rfl
  have e1 : (Mx.fst k A).co 1 = -A k k := rfl
  show [wrap64 ((Mx.fst k A).co 0), wrap64 ((Mx.fst k A).co 1)] = _
  rw [e0, e1, h1, wrap_neg]
theorem fst_more (k : Nat) (A : Nat → Nat → Int) (t : Nat) : wrap64 ((Mx.fst k A).co (t + 2)) = wrap64 (-wrap64 (Mx.S k fun i => A k i * Mx.bc k A t i)) := by rw [wrap_neg]; rfl
theorem fstL_get {k : Nat} {A : Nat → Nat → Int} {m i : Nat} (h : i < m) : (fstL k A m).getD i 0 = wrap64 ((Mx.fst k A).co i) := by simp [fstL, h]

theorem poly_zero (A : Nat → Nat → Int) : rowCells 1 (Mx.chi 0 A).co = #[.int .i64 1] := by
  have h1 : wrap64 1 = 1 := wrap_id (by unfold I64; omega)
  show #[Value.int .i64 (wrap64 1)] = _
  rw [h1]

/-- A row that lies in a block by itself. -/
theorem own_lit (w : World) (B g : Nat) (cs : Array Value) (ys : List Int) (n : Nat) (hB : B ≤ g) (h : w.heap[g]? = some (.cells cs 3 (0, 0))) (e : cs.toList = ys.map (Value.int .i64)) (en : n = ys.length) (hm : n ≤ maxLen) :
    Own w B (.slice (some ⟨g, 0, none⟩) n n) ys := by
  subst en
  have hs : cs.size = ys.length := by rw [← Array.length_toList, e, List.length_map]
  refine ⟨by simp, .inr ⟨g, ys.length, cs, rfl, hB, h, Nat.le_refl _, hm, by simp [hs], ?_⟩⟩
  rw [List.take_of_length_le (by simp [hs])]
  exact e
theorem own_eq {w w' : World} {B g l c : Nat} {ys : List Int} (h : Own w B (.slice (some ⟨g, 0, none⟩) l c) ys) (e : w'.heap[g]? = w.heap[g]?) : Own w' B (.slice (some ⟨g, 0, none⟩) l c) ys := by
  refine ⟨h.1, ?_⟩
  rcases h.2 with h2 | ⟨g', cap, cur, hv, hg, hh, r⟩
  · exact .inl h2
  · have hv' := hv
    simp at hv'
    obtain ⟨⟨rfl, _⟩, _⟩ := hv'
    exact .inr ⟨g, cap, cur, hv, hg, by rw [e]; exact hh, r⟩

end Go.Proofs.YtcenhemlgapkeaaDoor
