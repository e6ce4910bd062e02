/- Stores into an own row. No condition. -/
import Derived.Test.YtaplaoelamnoiaaGreatDoorBd04
import Derived.Laws.Rows
namespace Go.Proofs.YtaplaoelamnoiaaGreatDoor
open Go.RowKit

theorem own_slice {w : World} {B : Nat} {v : Value} {ys : List Int} (h : Own w B v ys) (hne : 0 < ys.length) : ∃ g cap, v = .slice (some ⟨g, 0, none⟩) ys.length cap ∧ B ≤ g ∧ g < w.heap.size := by
  rcases h.2 with ⟨_, hn⟩ | ⟨g, cap, cur, hv, hb, hg, _⟩
  · omega
  · exact ⟨g, cap, hv, hb, (Array.getElem?_eq_some_iff.1 hg).1⟩
theorem own_at {w : World} {B g l cap : Nat} {ys : List Int} (h : Own w B (.slice (some ⟨g, 0, none⟩) l cap) ys) : B ≤ g ∧ g < w.heap.size := by
  rcases h.2 with ⟨e, _⟩ | ⟨g', cap', cur, e, hb, hg, _⟩
  · simp at e
  · simp at e
    obtain ⟨⟨rfl, _⟩, rfl, rfl⟩ := e
    exact ⟨hb, (Array.getElem?_eq_some_iff.1 hg).1⟩
theorem own_frozen {w : World} {B g l cap : Nat} {ys : List Int} (h : Own w B (.slice (some ⟨g, 0, none⟩) l cap) ys) (i : Nat) : w.frozen? ⟨g, i, none⟩ = false := by
  rcases h.2 with ⟨e, _⟩ | ⟨g', cap', cur, e, hb, hg, _⟩
  · simp at e
  · simp at e
    obtain ⟨⟨rfl, _⟩, _⟩ := e
    exact frozen_of_row w _ i _ _ hg
theorem own_cell {w : World} {B g l cap : Nat} {ys : List Int} (h : Own w B (.slice (some ⟨g, 0, none⟩) l cap) ys) {i : Nat} (hi : i < ys.length) : w.cell? ⟨g, i, none⟩ = some (.int .i64 (ys.getD i 0)) := by
  obtain ⟨b, o, e, hc⟩ := h.row i hi
  cases e
  rw [Nat.zero_add] at hc
  exact hc
theorem own_same {w w' : World} {B g l c : Nat} {ys : List Int} (h : Own w B (.slice (some ⟨g, 0, none⟩) l c) ys) (e : w'.heap[g]? = w.heap[g]?) : Own w' B (.slice (some ⟨g, 0, none⟩) l c) ys := by
  refine ⟨h.1, ?_⟩
  rcases h.2 with h2 | ⟨g', cap, cur, hv, hg, hh, r⟩
  · exact .inl h2
  · have hv' := hv
    simp at hv'
    obtain ⟨⟨rfl, _⟩, _⟩ := hv'
    exact .inr ⟨g, cap, cur, hv, hg, by rw [e]; exact hh, r⟩
theorem own_other {w : World} {B g l c : Nat} {ys : List Int} (h : Own w B (.slice (some ⟨g, 0, none⟩) l c) ys) (p : Addr) (v : Value) (hp : g ≠ p.block) : Own (w.setCell p v) B (.slice (some ⟨g, 0, none⟩) l c) ys :=
  own_same h (Below.heap_setCell w p v g hp)
theorem own_store {w : World} {B g l c : Nat} {ys : List Int} (h : Own w B (.slice (some ⟨g, 0, none⟩) l c) ys) {i : Nat} (hi : i < ys.length) (v : Int) : Own (w.setCell ⟨g, i, none⟩ (.int .i64 v)) B (.slice (some ⟨g, 0, none⟩) l c) (ys.set i v) := by
  refine ⟨by simp, ?_⟩
  rcases h.2 with ⟨e, _⟩ | ⟨g', cap, cur, hv, hg, hh, h1, h2, h3, h4⟩
  · simp at e
  · have hv' := hv
    simp at hv'
    obtain ⟨⟨rfl, _⟩, rfl, rfl⟩ := hv'
    rw [List.length_set]
    refine .inr ⟨g, c, cur.setIfInBounds i (.int .i64 v), rfl, hg, ?_, h1, h2, by simpa using h3, ?_⟩
    · exact heap_setCell_same w g i _ _ _ hh
    · rw [Array.toList_setIfInBounds, List.map_set, ← h4, Nat.mul_one, List.take_set]

end Go.Proofs.YtaplaoelamnoiaaGreatDoor
