/- Texts that lie in one file: what is plain, rows, boxes, squares, and what is known of a world. No condition. -/
import Derived.Test.YtaplaoelamnoiaaGreatDoorBd04
import Derived.Maps.AppendAt
/- An int appended to an own row, with word of the block that it lies in afterwards, and of all that is left alone. Condition: fewer than 2^44 ints. -/
namespace Go.Proofs.YtaplaoelamnoiaaGreatDoor
open Go.RowKit

theorem own_block {w : World} {B : Nat} {g l cap : Nat} {ys : List Int} (h : Own w B (.slice (some ⟨g, 0, none⟩) l cap) ys) : B ≤ g ∧ g < w.heap.size := by
  rcases h.2 with ⟨e, _⟩ | ⟨g', cap', cur, e, hb, hg, _⟩
  · simp at e
  · simp at e
    obtain ⟨⟨rfl, _⟩, rfl, rfl⟩ := e
    exact ⟨hb, (Array.getElem?_eq_some_iff.1 hg).1⟩

theorem app_at {w : World} {ops : Array Oper} {rest : List Oper} {o : Oper} {a : Act} {Q : Exit → Act → World → Prop} (hgd : o.guard = none) (s x : Operand)
    (ho : o.op = .call { callee := .builtin .append, args := #[s, x], argTypes := #[22, 22] })
    (B g l cap : Nat) (ys : List Int) (n : Int) (hs : a.eval s = .slice (some ⟨g, 0, none⟩) l cap) (hown : Own w B (.slice (some ⟨g, 0, none⟩) l cap) ys) (hx : a.eval x = .slice (some ⟨w.heap.size, 0, none⟩) 1 1)
    (hlen : ys.length < 17592186044416) (hB : B ≤ w.heap.size) (m : Nat) (em : m = ys.length + 1)
    (h : ∀ g' cap' w', Own w' B (.slice (some ⟨g', 0, none⟩) m cap') (ys ++ [n]) → (g' = g ∨ w.heap.size ≤ g') → (∀ k, k < w.heap.size → k ≠ g → w'.heap[k]? = w.heap[k]?) → Below B w w' → w.heap.size < w'.heap.size →
      wpList Tryz.prog ops Q rest (a.put o.dst (.slice (some ⟨g', 0, none⟩) m cap')) w') :
    wpList Tryz.prog ops Q (o :: rest) a (w.alloc (.cells #[.int .i64 n] 3)) := by
  obtain ⟨i0, hi, hz0, hz1, hz2⟩ := info_parts Tryz.infoInt
  refine wpList_append_own_at _ hgd s x 22 ho B 3 i0 (.int .i64 0) 1 8 Tryz.underlying22 hi hz0 hz1 hz2 rfl (by decide) _ _ _ hs (hown.alloc _)
    ⟨w.heap.size, 0, none⟩ 1 1 [.int .i64 n] hx rfl ?_ ?_ (by simp only [maxLen]; omega) (by omega) (by simp; omega) ?_
  · intro j u hj
    match j, hj with
    | 0, hj => simp at hj; subst hj; simp [Addr.add]
  · intro u hu; simp at hu; subst hu; rfl
  · intro v' w' h1 h2 _ h4
    have hown' : Own w' B v' (ys ++ [n]) := by unfold Own; simpa using h1
    have hbl := own_block hown
    have hsz := h2.size
    simp at hsz
    have hbe : Below B w w' := ((Below.refl B w).alloc hB _).grown h2 (by simp; omega) (fun k hk => by simp [Value.ownBlock] at hk; omega)
    rcases hown'.2 with ⟨rfl, hn⟩ | ⟨g', cap', cur, rfl, hg, _⟩
    · simp at hn
    · have e2 : (ys ++ [n]).length = m := by rw [em]; simp
      rw [e2] at hown' ⊢
      refine h g' cap' w' hown' ?_ ?_ hbe (by omega)
      · rcases h4 with h4 | h4
        · simp [Value.ownBlock] at h4; exact .inl h4
        · simp [Value.ownBlock] at h4; exact .inr (by omega)
      · intro k hk hne
        have e3 := h2.block k (by simp; omega) (by simp [Value.ownBlock]; exact hne)
        rw [e3]
        exact heap_alloc_old _ _ hk

end Go.Proofs.YtaplaoelamnoiaaGreatDoor

/- An int appended to one of several own rows: the others stay. Condition: fewer than 2^44 ints. -/
namespace Go.Proofs.YtaplaoelamnoiaaGreatDoor
open Go.RowKit

/-- Two slices that do not lie in one block. -/
def Apart (u v : Value) : Prop := ∀ k, u.ownBlock = some k → v.ownBlock ≠ some k
theorem Apart.swap {u v : Value} (h : Apart u v) : Apart v u := fun k h1 h2 => h k h2 h1
theorem own_bound {w : World} {B : Nat} {v : Value} {ys : List Int} (h : Own w B v ys) : ∀ k, v.ownBlock = some k → B ≤ k ∧ k < w.heap.size := World.ownsRow.lt h
theorem own_keep {w w' : World} {B : Nat} {v : Value} {ys : List Int} (h : Own w B v ys) (e : ∀ k, v.ownBlock = some k → w'.heap[k]? = w.heap[k]?) : Own w' B v ys := by
  refine ⟨h.1, ?_⟩
  rcases h.2 with h2 | ⟨g, cap, cur, hv, hg, hh, r⟩
  · exact .inl h2
  · exact .inr ⟨g, cap, cur, hv, hg, by rw [e g (by rw [hv]; rfl)]; exact hh, r⟩
/-- What an append leaves alone. -/
def Grew (v v' : Value) (w w' : World) : Prop := (v'.ownBlock = v.ownBlock ∨ ∃ k, v'.ownBlock = some k ∧ w.heap.size ≤ k) ∧ ∀ k, k < w.heap.size → some k ≠ v.ownBlock → w'.heap[k]? = w.heap[k]?
theorem Grew.own {w w' : World} {B : Nat} {u v v' : Value} {zs : List Int} (h : Grew v v' w w') (ho : Own w B u zs) (ha : Apart u v) : Own w' B u zs :=
  own_keep ho fun k hk => h.2 k (own_bound ho k hk).2 fun e => ha k hk e.symm
theorem Grew.apart {w w' : World} {B : Nat} {u v v' : Value} {zs : List Int} (h : Grew v v' w w') (ho : Own w B u zs) (ha : Apart u v) : Apart u v' := fun k hk e => by
  rcases h.1 with h1 | ⟨k', h1, h2⟩
  · exact ha k hk (h1.symm.trans e)
  · rw [h1] at e
    cases e
    have := (own_bound ho k hk).2
    omega

theorem app_two {w : World} {ops : Array Oper} {rest : List Oper} {o : Oper} {a : Act} {Q : Exit → Act → World → Prop} (hgd : o.guard = none) (s x : Operand)
    (ho : o.op = .call { callee := .builtin .append, args := #[s, x], argTypes := #[22, 22] })
    (B : Nat) (v : Value) (ys : List Int) (n : Int) (hs : a.eval s = v) (hown : Own w B v ys) (hx : a.eval x = .slice (some ⟨w.heap.size, 0, none⟩) 1 1)
    (hlen : ys.length < 17592186044416) (hB : B ≤ w.heap.size)
    (h : ∀ v' w', Own w' B v' (ys ++ [n]) → Grew v v' w w' → Below B w w' → w.heap.size < w'.heap.size → wpList Tryz.prog ops Q rest (a.put o.dst v') w') :
    wpList Tryz.prog ops Q (o :: rest) a (w.alloc (.cells #[.int .i64 n] 3)) := by
  obtain ⟨i0, hi, hz0, hz1, hz2⟩ := info_parts Tryz.infoInt
  refine wpList_append_own_at _ hgd s x 22 ho B 3 i0 (.int .i64 0) 1 8 Tryz.underlying22 hi hz0 hz1 hz2 rfl (by decide) v _ _ hs (hown.alloc _)
    ⟨w.heap.size, 0, none⟩ 1 1 [.int .i64 n] hx rfl ?_ ?_ (by simp only [maxLen]; omega) (by omega) (by simp; omega) ?_
  · intro j u hj
    match j, hj with
    | 0, hj => simp at hj; subst hj; simp [Addr.add]
  · intro u hu; simp at hu; subst hu; rfl
  · intro v' w' h1 h2 _ h4
    have hsz := h2.size
    simp at hsz
    refine h v' w' (by unfold Own; simpa using h1) ⟨?_, fun k hk hne => ?_⟩ ?_ (by omega)
    · rcases h4 with h4 | h4
      · exact .inl h4
      · exact .inr ⟨_, h4, by simp⟩
    · rw [h2.block k (by simp; omega) hne]
      exact heap_alloc_old _ _ hk
    · exact (((Below.refl B w).alloc hB _).grown h2 (by simp; omega) (fun k hk => (own_bound hown k hk).1))
end Go.Proofs.YtaplaoelamnoiaaGreatDoor
