/- Texts that lie in one file: what is plain, rows, boxes, squares, and what is known of a world. No condition. -/
import Derived.Test.YtaplaoelamnoiaaGreatDoorBg04
import Derived.Laws.Rows
import Derived.Test.YtaplaoelamnoiaaGreatDoorBg00
import Derived.Maps.AppendAt
/- Stores into an own row. No condition. -/
namespace Go.Proofs.YtaplaoelamnoiaaGreatDoor
open Go.RowKit

theorem own_slice {w : World} {B : Nat} {v : Value} {ys : List Int} (h : Own w B v ys) (hne : 0 < ys.length) : ∃ g cap, v = .slice (some ⟨g, 0, none⟩) ys.length cap ∧ B ≤ g ∧ g < w.heap.size := by
  rcases h.2 with ⟨_, hn⟩ | ⟨g, cap, cur, hv, hb, hg, _⟩
  · omega
  · exact ⟨g, cap, hv, hb, (Array.getElem?_eq_some_iff.1 hg).1⟩
theorem own_at {w : World} {B g l cap : Nat} {ys : List Int} (h : Own w B (.slice (some ⟨g, 0, none⟩) l cap) ys) : B ≤ g ∧ g < w.heap.size := by
  rcases h.2 with ⟨e, _⟩ | ⟨g', cap', cur, e, hb, hg, _⟩
  · simp at e
  · simp at e
    obtain ⟨⟨rfl, _⟩, rfl, rfl⟩ := e
    exact ⟨hb, (Array.getElem?_eq_some_iff.1 hg).1⟩
theorem own_frozen {w : World} {B g l cap : Nat} {ys : List Int} (h : Own w B (.slice (some ⟨g, 0, none⟩) l cap) ys) (i : Nat) : w.frozen? ⟨g, i, none⟩ = false := by
  rcases h.2 with ⟨e, _⟩ | ⟨g', cap', cur, e, hb, hg, _⟩
  · simp at e
  · simp at e
    obtain ⟨⟨rfl, _⟩, _⟩ := e
    exact frozen_of_row w _ i _ _ hg
theorem own_cell {w : World} {B g l cap : Nat} {ys : List Int} (h : Own w B (.slice (some ⟨g, 0, none⟩) l cap) ys) {i : Nat} (hi : i < ys.length) : w.cell? ⟨g, i, none⟩ = some (.int .i64 (ys.getD i 0)) := by
  obtain ⟨b, o, e, hc⟩ := h.row i hi
  cases e
  rw [Nat.zero_add] at hc
  exact hc
theorem own_same {w w' : World} {B g l c : Nat} {ys : List Int} (h : Own w B (.slice (some ⟨g, 0, none⟩) l c) ys) (e : w'.heap[g]? = w.heap[g]?) : Own w' B (.slice (some ⟨g, 0, none⟩) l c) ys := by
  refine ⟨h.1, ?_⟩
  rcases h.2 with h2 | ⟨g', cap, cur, hv, hg, hh, r⟩
  · exact .inl h2
  · have hv' := hv
    simp at hv'
    obtain ⟨⟨rfl, _⟩, _⟩ := hv'
    exact .inr ⟨g, cap, cur, hv, hg, by rw [e]; exact hh, r⟩
theorem own_other {w : World} {B g l c : Nat} {ys : List Int} (h : Own w B (.slice (some ⟨g, 0, none⟩) l c) ys) (p : Addr) (v : Value) (hp : g ≠ p.block) : Own (w.setCell p v) B (.slice (some ⟨g, 0, none⟩) l c) ys :=
  own_same h (Below.heap_setCell w p v g hp)
theorem own_store {w : World} {B g l c : Nat} {ys : List Int} (h : Own w B (.slice (some ⟨g, 0, none⟩) l c) ys) {i : Nat} (hi : i < ys.length) (v : Int) : Own (w.setCell ⟨g, i, none⟩ (.int .i64 v)) B (.slice (some ⟨g, 0, none⟩) l c) (ys.set i v) := by
  refine ⟨by simp, ?_⟩
  rcases h.2 with ⟨e, _⟩ | ⟨g', cap, cur, hv, hg, hh, h1, h2, h3, h4⟩
  · simp at e
  · have hv' := hv
    simp at hv'
    obtain ⟨⟨rfl, _⟩, rfl, rfl⟩ := hv'
    rw [List.length_set]
    refine .inr ⟨g, c, cur.setIfInBounds i (.int .i64 v), rfl, hg, ?_, h1, h2, by simpa using h3, ?_⟩
    · exact heap_setCell_same w g i _ _ _ hh
    · rw [Array.toList_setIfInBounds, List.map_set, ← h4, Nat.mul_one, List.take_set]

end Go.Proofs.YtaplaoelamnoiaaGreatDoor

/- One append of an int to an own slice that has room: it lies where it lay. Condition: the room holds one more. -/
namespace Go.Proofs.YtaplaoelamnoiaaGreatDoor
open Go.RowKit

theorem cell_one' (w : World) (n : Int) : ∀ j u, [Value.int .i64 n][j]? = some u → (w.alloc (.cells #[.int .i64 n] 3)).cell? ((⟨w.heap.size, 0, none⟩ : Addr).add j) = some u := by
  intro j u hj
  match j, hj with
  | 0, hj =>
    simp at hj
    subst hj
    simp [Addr.add]

theorem app_fit {w : World} {ops : Array Oper} {rest : List Oper} {o : Oper} {a : Act} {Q : Exit → Act → World → Prop} (hgd : o.guard = none) (s x : Operand)
    (ho : o.op = .call { callee := .builtin .append, args := #[s, x], argTypes := #[22, 22] })
    (B g cap l : Nat) (ys : List Int) (n : Int) (hs : a.eval s = .slice (some ⟨g, 0, none⟩) l cap) (el : l = ys.length) (hown : Own w B (.slice (some ⟨g, 0, none⟩) ys.length cap) ys) (hx : a.eval x = .slice (some ⟨w.heap.size, 0, none⟩) 1 1)
    (hfit : ys.length + 1 ≤ cap)
    (h : ∀ w', Own w' B (.slice (some ⟨g, 0, none⟩) (l + 1) cap) (ys ++ [n]) → But g w w' → Below B w w' → w'.heap.size = w.heap.size + 1 → wpList Tryz.prog ops Q rest (a.put o.dst (.slice (some ⟨g, 0, none⟩) (l + 1) cap)) w') :
    wpList Tryz.prog ops Q (o :: rest) a (w.alloc (.cells #[.int .i64 n] 3)) := by
  subst el
  obtain ⟨i0, hi, hz0, hz1, hz2⟩ := info_parts Tryz.infoInt
  rcases hown.2 with ⟨e, _⟩ | ⟨g', cap', cur, e, hb, hg, hnc, hcm, hcs, ht⟩
  · simp at e
  · simp at e
    obtain ⟨⟨rfl, _⟩, rfl, rfl⟩ := e
    have hlt := lt_of_some hg
    have hg' := (heap_alloc_old w (.cells #[.int .i64 n] 3) hlt).trans hg
    have hr := run_append_room (P := Tryz.prog) (w.alloc (.cells #[.int .i64 n] 3)) 22 o.type 3 i0 Tryz.underlying22 hi g ys.length cap cur hg' ⟨w.heap.size, 0, none⟩ 1 1 [.int .i64 n] (by rw [hz1]; rfl) (cell_one' w n) (by intro u hu; simp at hu; subst hu; rfl) hfit (by rw [hz1, hcs]; simp; omega)
    refine wpList_plain hgd fun K hK => ?_
    unfold Oper.wp execOp
    simp only [ho, resolve, invoke, builtin, Sem.run_bind, Sem.run_pure, Result.andThen_ok, List.map_toArray, List.map_cons, List.map_nil, hs, hx, hr]
    refine hK _ _ (h _ ?_ ?_ ?_ ?_)
    · refine ⟨by simp, .inr ⟨g, cap, _, by simp, hb, setRow_heap _ g cur _ _ _ hg', by simpa using hfit, hcm, ?_, ?_⟩⟩
      · rw [hz1]; simp; omega
      · rw [hz1, Nat.mul_one] at *
        simp only [List.map_append, List.map_cons, List.map_nil, List.length_append, List.length_cons, List.length_nil, Nat.mul_one]
        rw [ht, show ys.length + (0 + 1) = (List.map (Value.int .i64) ys ++ [Value.int .i64 n]).length by simp]
        exact List.take_left
    · exact fun b hb' hne => (setRow_other _ g b _ hne).trans (heap_alloc_old w _ hb')
    · exact ((Below.refl B w).alloc (Nat.le_trans hb (Nat.le_of_lt hlt)) _).trans ⟨rfl, rfl, rfl, by simp [World.setRow], fun k hk => setRow_other _ g k _ (by omega)⟩
    · simp [World.setRow]
end Go.Proofs.YtaplaoelamnoiaaGreatDoor

/- An int appended to an own row, with word of the block that it lies in afterwards, and of all that is left alone. Condition: fewer than 2^44 ints. -/
namespace Go.Proofs.YtaplaoelamnoiaaGreatDoor
open Go.RowKit

theorem own_block {w : World} {B : Nat} {g l cap : Nat} {ys : List Int} (h : Own w B (.slice (some ⟨g, 0, none⟩) l cap) ys) : B ≤ g ∧ g < w.heap.size := by
  rcases h.2 with ⟨e, _⟩ | ⟨g', cap', cur, e, hb, hg, _⟩
  · simp at e
  · simp at e
    obtain ⟨⟨rfl, _⟩, rfl, rfl⟩ := e
    exact ⟨hb, (Array.getElem?_eq_some_iff.1 hg).1⟩

theorem app_at {w : World} {ops : Array Oper} {rest : List Oper} {o : Oper} {a : Act} {Q : Exit → Act → World → Prop} (hgd : o.guard = none) (s x : Operand)
    (ho : o.op = .call { callee := .builtin .append, args := #[s, x], argTypes := #[22, 22] })
    (B g l cap : Nat) (ys : List Int) (n : Int) (hs : a.eval s = .slice (some ⟨g, 0, none⟩) l cap) (hown : Own w B (.slice (some ⟨g, 0, none⟩) l cap) ys) (hx : a.eval x = .slice (some ⟨w.heap.size, 0, none⟩) 1 1)
    (hlen : ys.length < 17592186044416) (hB : B ≤ w.heap.size) (m : Nat) (em : m = ys.length + 1)
    (h : ∀ g' cap' w', Own w' B (.slice (some ⟨g', 0, none⟩) m cap') (ys ++ [n]) → (g' = g ∨ w.heap.size ≤ g') → (∀ k, k < w.heap.size → k ≠ g → w'.heap[k]? = w.heap[k]?) → Below B w w' → w.heap.size < w'.heap.size →
      wpList Tryz.prog ops Q rest (a.put o.dst (.slice (some ⟨g', 0, none⟩) m cap')) w') :
    wpList Tryz.prog ops Q (o :: rest) a (w.alloc (.cells #[.int .i64 n] 3)) := by
  obtain ⟨i0, hi, hz0, hz1, hz2⟩ := info_parts Tryz.infoInt
  refine wpList_append_own_at _ hgd s x 22 ho B 3 i0 (.int .i64 0) 1 8 Tryz.underlying22 hi hz0 hz1 hz2 rfl (by decide) _ _ _ hs (hown.alloc _)
    ⟨w.heap.size, 0, none⟩ 1 1 [.int .i64 n] hx rfl ?_ ?_ (by simp only [maxLen]; omega) (by omega) (by simp; omega) ?_
  · intro j u hj
    match j, hj with
    | 0, hj => simp at hj; subst hj; simp [Addr.add]
  · intro u hu; simp at hu; subst hu; rfl
  · intro v' w' h1 h2 _ h4
    have hown' : Own w' B v' (ys ++ [n]) := by unfold Own; simpa using h1
    have hbl := own_block hown
    have hsz := h2.size
    simp at hsz
    have hbe : Below B w w' := ((Below.refl B w).alloc hB _).grown h2 (by simp; omega) (fun k hk => by simp [Value.ownBlock] at hk; omega)
    rcases hown'.2 with ⟨rfl, hn⟩ | ⟨g', cap', cur, rfl, hg, _⟩
    · simp at hn
    · have e2 : (ys ++ [n]).length = m := by rw [em]; simp
      rw [e2] at hown' ⊢
      refine h g' cap' w' hown' ?_ ?_ hbe (by omega)
      · rcases h4 with h4 | h4
        · simp [Value.ownBlock] at h4; exact .inl h4
        · simp [Value.ownBlock] at h4; exact .inr (by omega)
      · intro k hk hne
        have e3 := h2.block k (by simp; omega) (by simp [Value.ownBlock]; exact hne)
        rw [e3]
        exact heap_alloc_old _ _ hk

end Go.Proofs.YtaplaoelamnoiaaGreatDoor
