/- An int appended to an own row, with word of the block that it lies in afterwards, and of all that is left alone. Condition: fewer than 2^44 ints. -/
import Derived.Test.YtaplaoelamnoiaaGreatDoorBd04
import Derived.Maps.AppendAt
namespace Go.Proofs.YtaplaoelamnoiaaGreatDoor
open Go.RowKit

theorem own_block {w : World} {B : Nat} {g l cap : Nat} {ys : List Int} (h : Own w B (.slice (some ⟨g, 0, none⟩) l cap) ys) : B ≤ g ∧ g < w.heap.size := by
  rcases h.2 with ⟨e, _⟩ | ⟨g', cap', cur, e, hb, hg, _⟩
  · simp at e
  · simp at e
    obtain ⟨⟨rfl, _⟩, rfl, rfl⟩ := e
    exact ⟨hb, (Array.getElem?_eq_some_iff.1 hg).1⟩

theorem app_at {w : World} {ops : Array Oper} {rest : List Oper} {o : Oper} {a : Act} {Q : Exit → Act → World → Prop} (hgd : o.guard = none) (s x : Operand)
    (ho : o.op = .call { callee := .builtin .append, args := #[s, x], argTypes := #[22, 22] })
    (B g l cap : Nat) (ys : List Int) (n : Int) (hs : a.eval s = .slice (some ⟨g, 0, none⟩) l cap) (hown : Own w B (.slice (some ⟨g, 0, none⟩) l cap) ys) (hx : a.eval x = .slice (some ⟨w.heap.size, 0, none⟩) 1 1)
    (hlen : ys.length < 17592186044416) (hB : B ≤ w.heap.size) (m : Nat) (em : m = ys.length + 1)
    (h : ∀ g' cap' w', Own w' B (.slice (some ⟨g', 0, none⟩) m cap') (ys ++ [n]) → (g' = g ∨ w.heap.size ≤ g') → (∀ k, k < w.heap.size → k ≠ g → w'.heap[k]? = w.heap[k]?) → Below B w w' → w.heap.size < w'.heap.size →
      wpList Tryz.prog ops Q rest (a.put o.dst (.slice (some ⟨g', 0, none⟩) m cap')) w') :
    wpList Tryz.prog ops Q (o :: rest) a (w.alloc (.cells #[.int .i64 n] 3)) := by
  obtain ⟨i0, hi, hz0, hz1, hz2⟩ := info_parts Tryz.infoInt
  refine wpList_append_own_at _ hgd s x 22 ho B 3 i0 (.int .i64 0) 1 8 Tryz.underlying22 hi hz0 hz1 hz2 rfl (by decide) _ _ _ hs (hown.alloc _)
    ⟨w.heap.size, 0, none⟩ 1 1 [.int .i64 n] hx rfl ?_ ?_ (by simp only [maxLen]; omega) (by omega) (by simp; omega) ?_
  · intro j u hj
    match j, hj with
    | 0, hj => simp at hj; subst hj; simp [Addr.add]
  · intro u hu; simp at hu; subst hu; rfl
  · intro v' w' h1 h2 _ h4
    have hown' : Own w' B v' (ys ++ [n]) := by unfold Own; simpa using h1
    have hbl := own_block hown
    have hsz := h2.size
    simp at hsz
    have hbe : Below B w w' := ((Below.refl B w).alloc hB _).grown h2 (by simp; omega) (fun k hk => by simp [Value.ownBlock] at hk; omega)
    rcases hown'.2 with ⟨rfl, hn⟩ | ⟨g', cap', cur, rfl, hg, _⟩
    · simp at hn
    · have e2 : (ys ++ [n]).length = m := by rw [em]; simp
      rw [e2] at hown' ⊢
      refine h g' cap' w' hown' ?_ ?_ hbe (by omega)
      · rcases h4 with h4 | h4
        · simp [Value.ownBlock] at h4; exact .inl h4
        · simp [Value.ownBlock] at h4; exact .inr (by omega)
      · intro k hk hne
        have e3 := h2.block k (by simp; omega) (by simp [Value.ownBlock]; exact hne)
        rw [e3]
        exact heap_alloc_old _ _ hk

end Go.Proofs.YtaplaoelamnoiaaGreatDoor
