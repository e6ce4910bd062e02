/- An array that is being built: its box, its cells an own slice, all else as it was. No condition. -/
import Derived.Test.YtfnoalbnkbifmaaBdS
import Derived.Test.YtfnoalbnkbifmaaBdB
import Derived.Test.YtfnoalbnkbifmaaBdA
import Derived.Laws.Rows
namespace Go.Proofs.Ytfnoalbnkbifmaa
open Go.RowKit

theorem cell_of_eq {w v : World} {b : Nat} (h : v.heap[b]? = w.heap[b]?) (o : Nat) : v.cell? ⟨b, o, none⟩ = w.cell? ⟨b, o, none⟩ := World.cell?_of_block (w := w) h
theorem frozen_of_eq {w v : World} {b : Nat} (h : v.heap[b]? = w.heap[b]?) (o : Nat) : v.frozen? ⟨b, o, none⟩ = w.frozen? ⟨b, o, none⟩ := by
  unfold World.frozen?; simp only; rw [h]

/-- In the box N an array is being built from world wB on: its cells, dv, are an own slice in blocks from B on. -/
def OutAt (w wB : World) (N B : Nat) (ch : Bool) (sv dv : Value) (ys : List Int) (wr : World) : Prop :=
  ((wr.cell? ⟨N, 0, none⟩ = some (.bool ch) ∧ wr.cell? ⟨N, 1, none⟩ = some sv ∧ wr.cell? ⟨N, 2, none⟩ = some dv) ∧ wr.frozen? ⟨N, 2, none⟩ = false) ∧
  Own wr B dv ys ∧ Below w.heap.size w wr ∧ B ≤ wr.heap.size ∧ (∀ b, b < B → b ≠ N → wr.heap[b]? = wB.heap[b]?)

theorem OutAt.step {w wB wr w' : World} {N B : Nat} {ch : Bool} {sv dv v' : Value} {ys zs : List Int} (h : OutAt w wB N B ch sv dv ys wr) (hN : w.heap.size ≤ N) (hNB : N < B)
    (hb : Below B wr w') (ho : Own w' B v' zs) : OutAt w wB N B ch sv v' zs (w'.setCell ⟨N, 2, none⟩ v') := by
  obtain ⟨⟨⟨c0, c1, c2⟩, f2⟩, hown, hbel, hsz, hrest⟩ := h
  have old : ∀ (b o : Nat) (u : Value), b < B → wr.cell? ⟨b, o, none⟩ = some u → w'.cell? ⟨b, o, none⟩ = some u := fun b o u hlt hc => (hb.cell (by exact hlt)).trans hc
  refine ⟨⟨⟨?_, ?_, ?_⟩, ?_⟩, ho.setCell _ _ hNB, (hbel.trans (hb.mono (by omega))).setCell hN _, ?_, ?_⟩
  · rw [World.cell?_setCell_other _ _ _ _ (by simp)]; exact old _ _ _ hNB c0
  · rw [World.cell?_setCell_other _ _ _ _ (by simp)]; exact old _ _ _ hNB c1
  · exact cell?_set_same _ _ _ (by rw [old _ _ _ hNB c2]; rfl)
  · rw [World.frozen?_setCell]; exact (hb.frozen (by exact hNB)).trans f2
  · have := hb.size; simp; omega
  · intro b hbB hne
    rw [heap_setCell_other _ _ _ _ hne, hb.block b hbB]
    exact hrest b hbB hne

theorem OutAt.box {w wB wr : World} {N B R : Nat} {ch : Bool} {sv dv : Value} {ys : List Int} (h : OutAt w wB N B ch sv dv ys wr) {ch' : Bool} {a : Option Addr} {m c : Nat} {b : Option Addr} {n z : Nat}
    (hR : R < B) (hne : R ≠ N) (hb : BoxF wB R ch' a m c b n z) : BoxF wr R ch' a m c b n z := by
  have e := h.2.2.2.2 R hR hne
  obtain ⟨⟨x0, x1, x2⟩, y0, y1, y2⟩ := hb
  exact ⟨⟨(cell_of_eq e 0).trans x0, (cell_of_eq e 1).trans x1, (cell_of_eq e 2).trans x2⟩, (frozen_of_eq e 0).trans y0, (frozen_of_eq e 1).trans y1, (frozen_of_eq e 2).trans y2⟩

end Go.Proofs.Ytfnoalbnkbifmaa
