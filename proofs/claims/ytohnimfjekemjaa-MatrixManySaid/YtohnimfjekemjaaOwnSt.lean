/- Stores into an own row; lists of a square's numbers. No condition. -/
import Derived.Test.YtohnimfjekemjaaSqList
import Derived.Test.YtohnimfjekemjaaMake
import Derived.Laws.Rows
namespace Go.Proofs.Ytohnimfjekemjaa
open Go.RowKit

theorem own_slice {w : World} {B : Nat} {v : Value} {ys : List Int} (h : Own w B v ys) (hne : 0 < ys.length) : ∃ g cap, v = .slice (some ⟨g, 0, none⟩) ys.length cap ∧ B ≤ g ∧ g < w.heap.size := by
  rcases h.2 with ⟨_, hn⟩ | ⟨g, cap, cur, hv, hb, hg, _⟩
  · omega
  · exact ⟨g, cap, hv, hb, (Array.getElem?_eq_some_iff.1 hg).1⟩
theorem own_at {w : World} {B g l cap : Nat} {ys : List Int} (h : Own w B (.slice (some ⟨g, 0, none⟩) l cap) ys) : B ≤ g ∧ g < w.heap.size := by
  rcases h.2 with ⟨e, _⟩ | ⟨g', cap', cur, e, hb, hg, _⟩
  · simp at e
  · simp at e
    obtain ⟨⟨rfl, _⟩, rfl, rfl⟩ := e
    exact ⟨hb, (Array.getElem?_eq_some_iff.1 hg).1⟩
theorem own_frozen {w : World} {B g l cap : Nat} {ys : List Int} (h : Own w B (.slice (some ⟨g, 0, none⟩) l cap) ys) (i : Nat) : w.frozen? ⟨g, i, none⟩ = false := by
  rcases h.2 with ⟨e, _⟩ | ⟨g', cap', cur, e, hb, hg, _⟩
  · simp at e
  · simp at e
    obtain ⟨⟨rfl, _⟩, _⟩ := e
    exact frozen_of_row w _ i _ _ hg
theorem own_cell {w : World} {B g l cap : Nat} {ys : List Int} (h : Own w B (.slice (some ⟨g, 0, none⟩) l cap) ys) {i : Nat} (hi : i < ys.length) : w.cell? ⟨g, i, none⟩ = some (.int .i64 (ys.getD i 0)) := by
  obtain ⟨b, o, e, hc⟩ := h.row i hi
  cases e
  rw [Nat.zero_add] at hc
  exact hc
theorem own_same {w w' : World} {B g l c : Nat} {ys : List Int} (h : Own w B (.slice (some ⟨g, 0, none⟩) l c) ys) (e : w'.heap[g]? = w.heap[g]?) : Own w' B (.slice (some ⟨g, 0, none⟩) l c) ys := by
  refine ⟨h.1, ?_⟩
  rcases h.2 with h2 | ⟨g', cap, cur, hv, hg, hh, r⟩
  · exact .inl h2
  · have hv' := hv
    simp at hv'
    obtain ⟨⟨rfl, _⟩, _⟩ := hv'
    exact .inr ⟨g, cap, cur, hv, hg, by rw [e]; exact hh, r⟩
theorem own_other {w : World} {B g l c : Nat} {ys : List Int} (h : Own w B (.slice (some ⟨g, 0, none⟩) l c) ys) (p : Addr) (v : Value) (hp : g ≠ p.block) : Own (w.setCell p v) B (.slice (some ⟨g, 0, none⟩) l c) ys :=
  own_same h (Below.heap_setCell w p v g hp)
theorem own_store {w : World} {B g l c : Nat} {ys : List Int} (h : Own w B (.slice (some ⟨g, 0, none⟩) l c) ys) {i : Nat} (hi : i < ys.length) (v : Int) : Own (w.setCell ⟨g, i, none⟩ (.int .i64 v)) B (.slice (some ⟨g, 0, none⟩) l c) (ys.set i v) := by
  refine ⟨by simp, ?_⟩
  rcases h.2 with ⟨e, _⟩ | ⟨g', cap, cur, hv, hg, hh, h1, h2, h3, h4⟩
  · simp at e
  · have hv' := hv
    simp at hv'
    obtain ⟨⟨rfl, _⟩, rfl, rfl⟩ := hv'
    rw [List.length_set]
    refine .inr ⟨g, c, cur.setIfInBounds i (.int .i64 v), rfl, hg, ?_, h1, h2, by simpa using h3, ?_⟩
    · exact heap_setCell_same w g i _ _ _ hh
    · rw [Array.toList_setIfInBounds, List.map_set, ← h4, Nat.mul_one, List.take_set]

/-- Numbers row by row. -/
def mkList (n : Nat) (F : Nat → Nat → Int) : List Int := (List.range (n * n)).map fun p => F (p / n) (p % n)
theorem mkList_length (n : Nat) (F : Nat → Nat → Int) : (mkList n F).length = n * n := by simp [mkList]
theorem mkList_get {n : Nat} (F : Nat → Nat → Int) {i j : Nat} (hi : i < n) (hj : j < n) : (mkList n F).getD (i * n + j) 0 = F i j := by
  have h := sq_index_lt hi hj
  have e := (sq_at_index (p := i * n + j) (i := i) hj).1 rfl
  rw [List.getD_eq_getElem?_getD]
  simp only [mkList, List.getElem?_map, List.getElem?_range h, Option.map_some, Option.getD_some]
  rw [← e.1, ← e.2]
theorem mkList_set {n : Nat} (F : Nat → Nat → Int) {i j : Nat} (hj : j < n) (v : Int) : (mkList n F).set (i * n + j) v = mkList n (put F i j v) := by
  apply List.ext_getElem
  · simp [mkList]
  · intro p h1 h2
    have hn : 0 < n := by omega
    simp only [List.getElem_set, mkList, List.getElem_map, List.getElem_range, put]
    by_cases e : i * n + j = p
    · rw [if_pos e, if_pos (by have := (sq_at_index (i := i) hj).1 e; omega)]
    · rw [if_neg e, if_neg (fun k => e ((sq_at_index (i := i) hj).2 ⟨k.1.symm, k.2.symm⟩))]
theorem mkList_congr {n : Nat} {F G : Nat → Nat → Int} (h : ∀ i j, i < n → j < n → F i j = G i j) : mkList n F = mkList n G := by
  unfold mkList
  apply List.map_congr_left
  intro p hp
  have hp := List.mem_range.1 hp
  have hn : 0 < n := Nat.pos_of_ne_zero fun h => by subst h; simp at hp
  exact h _ _ (Nat.div_lt_of_lt_mul hp) (Nat.mod_lt _ hn)
theorem mkList_self {n : Nat} {d : List Int} (h : d.length = n * n) : mkList n (M.sqA n d) = d := by
  apply List.ext_getElem
  · rw [mkList_length, h]
  · intro p h1 h2
    have hp : p < n * n := by omega
    have hn : 0 < n := Nat.pos_of_ne_zero fun h => by subst h; simp at hp
    have q1 : p / n < n := Nat.div_lt_of_lt_mul hp
    have q2 : p % n < n := Nat.mod_lt _ hn
    have q3 : p / n * n + p % n = p := by rw [Nat.mul_comm]; exact Nat.div_add_mod p n
    simp only [mkList, List.getElem_map, List.getElem_range, M.sqA]
    rw [if_pos ⟨q1, q2⟩, q3, List.getD_eq_getElem?_getD, List.getElem?_eq_getElem h2, Option.getD_some]
theorem mkList_i64 {n : Nat} {F : Nat → Nat → Int} (h : ∀ i j, i < n → j < n → I64 (F i j)) : All64 (mkList n F) := fun x hx => by
  obtain ⟨p, hp, rfl⟩ := List.mem_map.1 hx
  have hp := List.mem_range.1 hp
  have hn : 0 < n := Nat.pos_of_ne_zero fun h => by subst h; simp at hp
  exact h _ _ (Nat.div_lt_of_lt_mul hp) (Nat.mod_lt _ hn)
theorem sqA_mk {n : Nat} (F : Nat → Nat → Int) {i j : Nat} (hi : i < n) (hj : j < n) : M.sqA n (mkList n F) i j = F i j := by
  unfold M.sqA; rw [if_pos ⟨hi, hj⟩, mkList_get F hi hj]
theorem sqA_i64 {n : Nat} {d : List Int} (hd : All64 d) (i j : Nat) : I64 (M.sqA n d i j) := by
  unfold M.sqA
  split
  · rw [List.getD_eq_getElem?_getD]
    cases h : d[i * n + j]? with
    | none => show I64 0; unfold I64; omega
    | some v => exact hd _ (List.mem_of_getElem? h)
  · unfold I64; omega
theorem sqA_get {n : Nat} (d : List Int) {i j : Nat} (hi : i < n) (hj : j < n) : d.getD (i * n + j) 0 = M.sqA n d i j := by
  unfold M.sqA; rw [if_pos ⟨hi, hj⟩]

end Go.Proofs.Ytohnimfjekemjaa
