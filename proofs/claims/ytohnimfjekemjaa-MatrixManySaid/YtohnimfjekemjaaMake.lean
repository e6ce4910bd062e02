/- New rows of ints: made by make with room, and one row appended to an own one. Condition: fewer than 2^44 cells. -/
import Derived.Test.YtohnimfjekemjaaKit
namespace Go.Proofs.Ytohnimfjekemjaa
open Go.RowKit

/-- The cells that make([]int, 0, n) lays. -/
def roomCells (n : Nat) : Array Value := (List.replicate n (Value.int .i64 0)).toArray

theorem run_make_room (l n : Nat) (hl : l ≤ n) (hb : n < 17592186044416) (W : World) :
    (Instr.makeSlice 22 (.int .i64 (l : Int)) (.int .i64 (n : Int))).run Try.prog W = .ok (.slice (some ⟨W.heap.size, 0, none⟩) l n) (W.alloc (.cells (roomCells n) 3)) := by
  obtain ⟨i0, hi, hz0, hz1, hz2⟩ := info_parts Try.infoInt
  have h := run_make (P := Try.prog) W 22 3 i0 (.int .i64 0) Try.underlying22 hi hz0 .i64 .i64 l n (by omega) (by omega) (by rw [hz2]; omega) (by omega)
  rw [hz1, Int.toNat_natCast, Int.toNat_natCast, Nat.mul_one] at h
  rw [h]
  have e : madeCells (Value.int .i64 0).cells n = roomCells n := by
    apply Array.toList_inj.1
    exact (toList_madeCells_one _ _).trans rfl
  rw [e]

theorem run_make_room0 (n : Nat) (hb : n < 17592186044416) (W : World) :
    (Instr.makeSlice 22 (.int .i64 0) (.int .i64 (n : Int))).run Try.prog W = .ok (.slice (some ⟨W.heap.size, 0, none⟩) 0 n) (W.alloc (.cells (roomCells n) 3)) :=
  run_make_room 0 n (Nat.zero_le _) hb W

theorem own_room (W : World) (n B : Nat) (hB : B ≤ W.heap.size) (hn : n ≤ maxLen) : Own (W.alloc (.cells (roomCells n) 3)) B (.slice (some ⟨W.heap.size, 0, none⟩) 0 n) [] :=
  ⟨rfl, .inr ⟨W.heap.size, n, roomCells n, rfl, hB, heap_alloc_new _ _, Nat.zero_le _, hn, by simp [roomCells], by simp⟩⟩

/-- out = append(out, s...), out the call's own, s any row that is there. -/
theorem app_row {w : World} {ops : Array Oper} {rest : List Oper} {o : Oper} {a : Act} {Q : Exit → Act → World → Prop} (hgd : o.guard = none) (s x : Operand)
    (ho : o.op = .call { callee := .builtin .append, args := #[s, x], argTypes := #[22, 22] })
    (B : Nat) (v : Value) (ys zs : List Int) (b : Addr) (c : Nat) (hs : a.eval s = v) (hown : Own w B v ys) (hx : a.eval x = .slice (some b) zs.length c) (hrow : Row w (some b) zs)
    (hlen : ys.length + zs.length < 17592186044416) (hB : B ≤ w.heap.size)
    (h : ∀ v' w', Own w' B v' (ys ++ zs) → Below B w w' → w.heap.size ≤ w'.heap.size → wpList Try.prog ops Q rest (a.put o.dst v') w') :
    wpList Try.prog ops Q (o :: rest) a w := by
  obtain ⟨i0, hi, hz0, hz1, hz2⟩ := info_parts Try.infoInt
  refine wpList_append_own _ hgd s x 22 ho B 3 i0 (.int .i64 0) 1 8 Try.underlying22 hi hz0 hz1 hz2 rfl (by decide) v _ _ hs hown
    b zs.length c (zs.map (Value.int .i64)) hx (by simp) ?_ ?_ (by simp only [maxLen]; omega) (by omega) hB ?_
  · intro j u hj
    have hjl : j < zs.length := by
      have h1 := (List.getElem?_eq_some_iff.1 hj).1
      simpa using h1
    obtain ⟨b1, o1, hb, hc⟩ := hrow j hjl
    cases hb
    rw [Addr.add_lit, hc]
    rw [← hj]
    simp [hjl]
  · intro u hu
    obtain ⟨n, _, rfl⟩ := List.mem_map.1 hu
    rfl
  · intro v' w' h1 h2 _
    refine h v' w' (by unfold Own; simpa using h1) ?_ h2.size
    exact (Below.refl B w).grown h2 hB (fun k hk => by
        rcases hown.2 with ⟨rfl, _⟩ | ⟨g, cap, cur, rfl, hg, _⟩
        · simp [Value.ownBlock] at hk
        · simp [Value.ownBlock] at hk; omega)

theorem Own.row {w : World} {B : Nat} {a : Option Addr} {ys : List Int} {n c : Nat} (h : Own w B (.slice a n c) ys) : Row w a ys := by
  obtain ⟨a', c', he, _, _, hr⟩ := h.view
  cases he
  exact hr

/-- A store into an elder block. -/
theorem Own.setCell {w : World} {B : Nat} {v : Value} {ys : List Int} (h : Own w B v ys) (p : Addr) (x : Value) (hp : p.block < B) : Own (w.setCell p x) B v ys := by
  refine ⟨h.1, ?_⟩
  rcases h.2 with h2 | ⟨g, cap, cur, hv, hg, hh, r⟩
  · exact .inl h2
  · exact .inr ⟨g, cap, cur, hv, hg, by rw [Below.heap_setCell _ _ _ _ (by omega)]; exact hh, r⟩

end Go.Proofs.Ytohnimfjekemjaa
