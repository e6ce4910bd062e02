/- An array that is being built: its shape an own slice, no cells yet; then its cells. No condition. -/
import Derived.Test.YtcenhemlgapkeaaDoorOutAt
import Derived.Test.YtcenhemlgapkeaaDoorBdA
namespace Go.Proofs.YtcenhemlgapkeaaDoor
open Go.RowKit

/-- In the box N a shape is being built: sv is an own slice in blocks from B on. -/
def OutS (w wB : World) (N B : Nat) (ch : Bool) (sv : Value) (ys : List Int) (wr : World) : Prop :=
  ((wr.cell? ⟨N, 0, none⟩ = some (.bool ch) ∧ wr.cell? ⟨N, 1, none⟩ = some sv ∧ wr.cell? ⟨N, 2, none⟩ = some (.slice none 0 0)) ∧ wr.frozen? ⟨N, 0, none⟩ = false ∧ wr.frozen? ⟨N, 1, none⟩ = false ∧ wr.frozen? ⟨N, 2, none⟩ = false) ∧
  Own wr B sv ys ∧ Below w.heap.size w wr ∧ B ≤ wr.heap.size ∧ (∀ b, b < B → b ≠ N → wr.heap[b]? = wB.heap[b]?)

theorem OutS.step {w wB wr w' : World} {N B : Nat} {ch : Bool} {sv v' : Value} {ys zs : List Int} (h : OutS w wB N B ch sv ys wr) (hN : w.heap.size ≤ N) (hNB : N < B)
    (hb : Below B wr w') (ho : Own w' B v' zs) : OutS w wB N B ch v' zs (w'.setCell ⟨N, 1, none⟩ v') := by
  obtain ⟨⟨⟨c0, c1, c2⟩, f0, f1, f2⟩, hown, hbel, hsz, hrest⟩ := h
  have old : ∀ (b o : Nat) (u : Value), b < B → wr.cell? ⟨b, o, none⟩ = some u → w'.cell? ⟨b, o, none⟩ = some u := fun b o u hlt hc => (hb.cell (by exact hlt)).trans hc
  refine ⟨⟨⟨?_, ?_, ?_⟩, ?_, ?_, ?_⟩, ho.setCell _ _ hNB, (hbel.trans (hb.mono (by omega))).setCell hN _, ?_, ?_⟩
  · rw [World.cell?_setCell_other _ _ _ _ (by simp)]; exact old _ _ _ hNB c0
  · exact cell?_set_same _ _ _ (by rw [old _ _ _ hNB c1]; rfl)
  · rw [World.cell?_setCell_other _ _ _ _ (by simp)]; exact old _ _ _ hNB c2
  · rw [World.frozen?_setCell]; exact (hb.frozen (by exact hNB)).trans f0
  · rw [World.frozen?_setCell]; exact (hb.frozen (by exact hNB)).trans f1
  · rw [World.frozen?_setCell]; exact (hb.frozen (by exact hNB)).trans f2
  · have := hb.size; simp; omega
  · intro b hbB hne
    rw [heap_setCell_other _ _ _ _ hne, hb.block b hbB]
    exact hrest b hbB hne
theorem OutS.box {w wB wr : World} {N B R : Nat} {ch : Bool} {sv : Value} {ys : List Int} (h : OutS w wB N B ch sv ys wr) {ch' : Bool} {a : Option Addr} {m c : Nat} {b : Option Addr} {n z : Nat}
    (hR : R < B) (hne : R ≠ N) (hb : BoxF wB R ch' a m c b n z) : BoxF wr R ch' a m c b n z := by
  have e := h.2.2.2.2 R hR hne
  obtain ⟨⟨x0, x1, x2⟩, y0, y1, y2⟩ := hb
  exact ⟨⟨(cell_of_eq e 0).trans x0, (cell_of_eq e 1).trans x1, (cell_of_eq e 2).trans x2⟩, (frozen_of_eq e 0).trans y0, (frozen_of_eq e 1).trans y1, (frozen_of_eq e 2).trans y2⟩
/-- The shape stands: now the cells. -/
theorem OutS.start {w wB wr : World} {N B : Nat} {ch : Bool} {sv : Value} {ys : List Int} (h : OutS w wB N B ch sv ys wr) : OutAt w wr N wr.heap.size ch sv (.slice none 0 0) [] wr :=
  ⟨⟨h.1.1, h.1.2.2.2⟩, Own.nil _ _, h.2.2.1, Nat.le_refl _, fun _ _ _ => rfl⟩
theorem OutAt.other {w wB wr : World} {N B : Nat} {ch : Bool} {sv dv : Value} {ys : List Int} (h : OutAt w wB N B ch sv dv ys wr) {b : Nat} (hb : b < B) (hne : b ≠ N) : wr.heap[b]? = wB.heap[b]? := h.2.2.2.2 b hb hne
/-- A row in other blocks stays. -/
theorem OutAt.keep {w wB wr : World} {N B : Nat} {ch : Bool} {sv dv : Value} {ys : List Int} (h : OutAt w wB N B ch sv dv ys wr) (hB : wB.heap.size ≤ B) {a : Option Addr} {xs : List Int} (hr : Row wB a xs) (hne : ∀ p, a = some p → p.block ≠ N) : Row wr a xs := by
  intro i hi
  obtain ⟨b, o, rfl, hc⟩ := hr i hi
  have hlt : b < wB.heap.size := World.block_lt_of_cell? _ _ hc
  exact ⟨b, o, rfl, (cell_of_eq (h.other (b := b) (by omega) (hne _ rfl)) (o + i)).trans hc⟩

/-- What a call that tells an array alone leaves, its cells the call's own. -/
def VecOwn (x : Arr) (w : World) (e : Ending) (w' : World) : Prop :=
  ∃ a c v, e = .returned (.agg #[.bool x.ch, .slice a x.s.length c, v]) ∧ Row w' a x.s ∧ (∀ p, a = some p → w.heap.size ≤ p.block) ∧ Own w' w.heap.size v x.d ∧ (∀ p b l z, a = some p → v = .slice (some b) l z → p.block ≠ b.block) ∧ Below w.heap.size w w'
theorem VecOwn.post {x : Arr} {w w' : World} {e : Ending} (h : VecOwn x w e w') : VecPost x w e w' := by
  obtain ⟨a, c, v, he, ha, -, ho, -, hb⟩ := h
  obtain ⟨b, k, rfl, -, -, hd⟩ := ho.view
  exact ⟨a, c, b, k, he, ha, hd, hb⟩
end Go.Proofs.YtcenhemlgapkeaaDoor
