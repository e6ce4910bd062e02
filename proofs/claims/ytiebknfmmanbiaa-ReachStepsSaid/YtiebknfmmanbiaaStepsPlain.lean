/- A step and then any way, as an inner product of bits; the relation turned round. No program in sight; at most 24 things. -/
import Derived.Test.YtiebknfmmanbiaaPlainRel
import Derived.Test.YtiebknfmmanbiaaSemiRing
import Derived.Test.YtiebknfmmanbiaaEachPlain
import Derived.Test.YtiebknfmmanbiaaWkFlip
namespace Go.Proofs.Ytiebknfmmanbiaa
open Go.RowKit

theorem bit01 (b : Bool) : I64 (if b = true then 1 else 0) := by cases b <;> (unfold I64; simp)
/-- 1 or 0. -/
def zo (b : Bool) : Z6 := ⟨if b = true then 1 else 0, bit01 b⟩
theorem zo_and (a b : Bool) : srOr.mu (zo a) (zo b) = zo (a && b) := by
  cases a <;> cases b <;> exact Subtype.ext (by decide +kernel)
theorem zo_or (a b : Bool) : srOr.ad (zo a) (zo b) = zo (a || b) := by
  cases a <;> cases b <;> exact Subtype.ext (by decide +kernel)
theorem zo_zero : srOr.z = zo false := Subtype.ext bz_0
theorem zo_any (n : Nat) (G : Nat → Bool) : srOr.sm n (fun k => zo (G k)) = zo ((List.range n).any G) := by
  induction n with
  | zero => exact zo_zero
  | succ n ih =>
    simp only [SR.sm]
    rw [ih, zo_or, List.range_succ, List.any_append]
    simp
theorem rel_matL (n : Nat) (F : Nat → Nat → Bool) : relCells n F = matL n n fun i j => zo (F i j) := rfl
theorem relCells_i64 (n : Nat) (F : Nat → Nat → Bool) : All64 (relCells n F) := by rw [rel_matL]; exact matL_i64 _ _ _
theorem rel_matA {n : Nat} (F : Nat → Nat → Bool) (h : All64 (relCells n F)) {i j : Nat} (hi : i < n) (hj : j < n) : matA n h i j = zo (F i j) := matA_L (fun i j => zo (F i j)) h hi hj
theorem rel_inner {n : Nat} (hn : n ≤ 24) (F G : Nat → Nat → Bool) :
    M.inner 15 14 ⟨false, [(n : Int), (n : Int)], relCells n F⟩ ⟨false, [(n : Int), (n : Int)], relCells n G⟩ = .ok ⟨false, [(n : Int), (n : Int)], relCells n fun i j => (List.range n).any fun k => F i k && G k j⟩ := by
  rw [inner_sr srOr srOr_of (by omega : n ≤ 64) (by omega : n ≤ 64) (by omega : n ≤ 64) (relCells_i64 n F) (relCells_i64 n G) (relCells_length _ _) (relCells_length _ _), rel_matL n fun i j => (List.range n).any fun k => F i k && G k j]
  congr 2
  refine matL_congr fun i j hi hj => ?_
  rw [← zo_any]
  exact srOr.sm_congr fun k hk => by rw [rel_matA F _ hi hk, rel_matA G _ hk hj, zo_and]
theorem rel_or {n : Nat} (hn : n ≤ 24) (F G : Nat → Nat → Bool) :
    M.each2 15 ⟨false, [(n : Int), (n : Int)], relCells n F⟩ ⟨false, [(n : Int), (n : Int)], relCells n G⟩ = .ok ⟨false, [(n : Int), (n : Int)], relCells n fun i j => F i j || G i j⟩ := by
  rw [each2_num (F := bits .or .i64) rfl (fun _ _ => rfl) (flaw_mat (by omega : n ≤ 64) (by omega : n ≤ 64) (relCells_length _ _)) (flaw_mat (by omega : n ≤ 64) (by omega : n ≤ 64) (relCells_length _ _))]
  congr 2
  apply List.ext_getElem
  · rw [zipL_length, relCells_length, relCells_length]
  · intro p h1 h2
    rw [relCells_length] at h2
    have e : (zipL (bits .or .i64) (relCells n F) (relCells n G))[p] = (zipL (bits .or .i64) (relCells n F) (relCells n G)).getD p 0 := by rw [List.getD_eq_getElem?_getD, List.getElem?_eq_getElem h1]; rfl
    rw [e, zipL_get _ (by rw [relCells_length]; exact h2), relCells_at F h2, relCells_at G h2]
    have e2 : (relCells n fun i j => F i j || G i j)[p] = if (F (p / n) (p % n) || G (p / n) (p % n)) = true then 1 else 0 := by simp [relCells]
    rw [e2]
    cases F (p / n) (p % n) <;> cases G (p / n) (p % n) <;> decide
theorem clo_first {n : Nat} {F : Nat → Nat → Bool} {i j : Nat} (hi : i < n) (hj : j < n) : Re.clo n F i j = (F i j || (List.range n).any fun k => F i k && Re.clo n F k j) := by
  rw [Bool.eq_iff_iff]
  constructor
  · intro h
    refine Re.clo_least (n := n) (E := F) (fun i j => F i j || (List.range n).any fun k => F i k && Re.clo n F k j) (fun i j _ _ h => by rw [h]; rfl) ?_ hi hj h
    intro i m j _ hm hj h1 h2
    have c2 : Re.clo n F m j = true := by
      rcases Bool.or_eq_true_iff.1 h2 with h | h
      · exact Re.clo_le h
      · obtain ⟨k, hk, h⟩ := List.any_eq_true.1 h
        rw [Bool.and_eq_true] at h
        exact Re.clo_trans (List.mem_range.1 hk) (Re.clo_le h.1) h.2
    rw [Bool.or_eq_true_iff, List.any_eq_true]
    rcases Bool.or_eq_true_iff.1 h1 with h | h
    · exact .inr ⟨m, List.mem_range.2 hm, by rw [h, c2]; rfl⟩
    · obtain ⟨k, hk, h⟩ := List.any_eq_true.1 h
      rw [Bool.and_eq_true] at h
      exact .inr ⟨k, hk, by rw [h.1, Re.clo_trans hm h.2 c2]; rfl⟩
  · intro h
    rcases Bool.or_eq_true_iff.1 h with h | h
    · exact Re.clo_le h
    · obtain ⟨k, hk, h⟩ := List.any_eq_true.1 h
      rw [Bool.and_eq_true] at h
      exact Re.clo_trans (List.mem_range.1 hk) (Re.clo_le h.1) h.2
theorem clo_turn {n : Nat} {F : Nat → Nat → Bool} {i j : Nat} (hi : i < n) (hj : j < n) : Re.clo n (fun i j => F j i) i j = Re.clo n F j i := by
  rw [Bool.eq_iff_iff]
  constructor
  · exact fun h => Re.clo_least (n := n) (E := fun i j => F j i) (fun i j => Re.clo n F j i) (fun i j _ _ h => Re.clo_le h) (fun i m j _ hm _ h1 h2 => Re.clo_trans hm h2 h1) hi hj h
  · exact fun h => Re.clo_least (n := n) (E := F) (fun i j => Re.clo n (fun i j => F j i) j i) (fun i j _ _ h => Re.clo_le (E := fun i j => F j i) h) (fun i m j _ hm _ h1 h2 => Re.clo_trans (E := fun i j => F j i) hm h2 h1) hj hi h
theorem turned_mats (m n : Nat) (A : Nat → Nat → Z6) : M.turned m n (matL m n A) = matL n m fun i j => A j i := by
  apply List.ext_getElem
  · rw [turned_length, matL_length, Nat.mul_comm]
  · intro q h1 h2
    have hq : q < m * n := by rw [turned_length] at h1; exact h1
    have hq' : q < n * m := by rw [Nat.mul_comm]; exact hq
    obtain ⟨g1, g2⟩ := mat_index hq'
    have e1 : (M.turned m n (matL m n A))[q] = (matL m n A).getD ((q % m) * n + q / m) 0 := by simp only [M.turned, List.getElem_map, List.getElem_range]
    have e2 : (matL n m fun i j => A j i)[q] = (A (q % m) (q / m)).1 := by simp only [matL, List.getElem_map, List.getElem_range]
    have e3 := congrArg Subtype.val (matA_L A (matL_i64 m n A) g2 g1)
    rw [e1, e2, ← e3]; rfl
theorem rel_turned (n : Nat) (F : Nat → Nat → Bool) : M.turned n n (relCells n F) = relCells n fun i j => F j i := turned_mats n n fun i j => zo (F i j)
theorem rel_self {n : Nat} {d : List Int} (hl : d.length = n * n) (h01 : ∀ c ∈ d, c = 0 ∨ c = 1) : d = relCells n (M.relE ⟨false, [(n : Int), (n : Int)], d⟩) := by
  apply List.ext_getElem
  · rw [relCells_length, hl]
  · intro p h1 h2
    have hp : p < n * n := by rw [← hl]; exact h1
    obtain ⟨a1, a2, a3⟩ := split_index hp
    have e : (relCells n (M.relE ⟨false, [(n : Int), (n : Int)], d⟩))[p] = if M.relE ⟨false, [(n : Int), (n : Int)], d⟩ (p / n) (p % n) = true then 1 else 0 := by simp [relCells]
    rw [e, relE_in a1 a2, a3, List.getD_eq_getElem?_getD, List.getElem?_eq_getElem h1, Option.getD_some]
    rcases h01 d[p] (List.getElem_mem h1) with h | h <;> rw [h] <;> rfl
/-- A step, and then any way; the relation turned round. -/
theorem steps_all {n : Nat} (hn : n ≤ 24) {d : List Int} (hl : d.length = n * n) (h01 : ∀ c ∈ d, c = 0 ∨ c = 1) :
    ∃ X Y T U, M.close ⟨false, [(n : Int), (n : Int)], d⟩ = .ok ⟨false, [(n : Int), (n : Int)], X⟩ ∧ M.inner 15 14 ⟨false, [(n : Int), (n : Int)], d⟩ ⟨false, [(n : Int), (n : Int)], X⟩ = .ok ⟨false, [(n : Int), (n : Int)], Y⟩ ∧
      M.each2 15 ⟨false, [(n : Int), (n : Int)], d⟩ ⟨false, [(n : Int), (n : Int)], Y⟩ = .ok ⟨false, [(n : Int), (n : Int)], X⟩ ∧ M.turned n n d = T ∧ M.close ⟨false, [(n : Int), (n : Int)], T⟩ = .ok ⟨false, [(n : Int), (n : Int)], U⟩ ∧ M.turned n n X = U ∧
      (All64 X ∧ X.length = n * n) ∧ (All64 Y ∧ Y.length = n * n) ∧ T.length = n * n ∧ U.length = n * n := by
  obtain ⟨F, hF⟩ : ∃ F, F = M.relE ⟨false, [(n : Int), (n : Int)], d⟩ := ⟨_, rfl⟩
  have hd := rel_self hl h01
  rw [← hF] at hd
  have hf := rel_mk hn hl h01
  have hft := rel_mk hn (relCells_length n fun i j => F j i) (relCells_01 n _)
  refine ⟨relCells n (Re.clo n F), _, relCells n (fun i j => F j i), relCells n (fun i j => Re.clo n F j i), ?_, by rw [hd]; exact rel_inner hn F _, ?_, by rw [hd]; exact rel_turned n F, ?_, rel_turned n _, ⟨relCells_i64 _ _, relCells_length _ _⟩, ⟨relCells_i64 _ _, relCells_length _ _⟩, relCells_length _ _, relCells_length _ _⟩
  · unfold M.close
    rw [if_pos hf, hF]; rfl
  · have h := rel_or hn F fun i j => (List.range n).any fun k => F i k && Re.clo n F k j
    rw [← hd] at h
    rw [h]
    congr 2
    exact relCells_congr fun i j hi hj => (clo_first hi hj).symm
  · unfold M.close
    rw [if_pos hft]
    have e : M.relN ⟨false, [(n : Int), (n : Int)], relCells n fun i j => F j i⟩ = n := rfl
    rw [e]
    congr 2
    refine relCells_congr fun i j hi hj => ?_
    rw [Re.clo_congr (E := M.relE ⟨false, [(n : Int), (n : Int)], relCells n fun i j => F j i⟩) (F := fun i j => F j i) (fun i j hi hj => relE_cells (F := fun i j => F j i) hi hj) hi hj, clo_turn hi hj]
end Go.Proofs.Ytiebknfmmanbiaa
