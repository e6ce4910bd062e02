/- Texts that lie in one file: what is plain, rows, boxes, squares, and what is known of a world. No condition. -/
import Derived.Test.YtaplaoelamnoiaaGreatDoorBdT09
import Derived.Test.YtaplaoelamnoiaaGreatDoorBd04
import Derived.Test.YtaplaoelamnoiaaGreatDoorBd05
import Derived.Test.YtaplaoelamnoiaaGreatDoorBdT00
import Derived.Test.YtaplaoelamnoiaaGreatDoorBd00
import Derived.Test.YtaplaoelamnoiaaGreatDoorBdT01
import Derived.Deep.RegionHeld3
import Derived.Deep.Cut
import Derived.Deep.CutRange
/- What the walk of prod.Inner leans on: a table that is being built, the closures. No condition. -/
namespace Go.Proofs.YtaplaoelamnoiaaGreatDoor
open Go.RowKit

/-- An inner product that is being built. -/
def InnAt (w wB : World) (gd Bo : Nat) (sv dv : Value) (ys : List Int) (wr : World) : Prop :=
  (wr.cell? ⟨Bo, 0, none⟩ = some (.bool false) ∧ wr.cell? ⟨Bo, 1, none⟩ = some sv ∧ wr.cell? ⟨Bo, 2, none⟩ = some dv) ∧ wr.frozen? ⟨Bo, 2, none⟩ = false ∧
  (∃ g cap, dv = .slice (some ⟨g, 0, none⟩) ys.length cap ∧ g ≠ Bo ∧ (g = gd ∨ wB.heap.size ≤ g)) ∧ Own wr gd dv ys ∧ (∀ b, b < wB.heap.size → b ≠ Bo → b ≠ gd → wr.heap[b]? = wB.heap[b]?) ∧ Below w.heap.size w wr ∧ wB.heap.size ≤ wr.heap.size
theorem row_same {w v : World} {a : Option Addr} {xs : List Int} (h : Row w a xs) (hs : ∀ p, a = some p → v.heap[p.block]? = w.heap[p.block]?) : Row v a xs := by
  intro i hi
  obtain ⟨b, o, rfl, hc⟩ := h i hi
  exact ⟨b, o, rfl, (cell_of_eq (hs _ rfl) (o + i)).trans hc⟩
theorem boxF_same {w v : World} {N : Nat} {ch : Bool} {a : Option Addr} {m c : Nat} {b : Option Addr} {n z : Nat} (h : BoxF w N ch a m c b n z) (e : v.heap[N]? = w.heap[N]?) : BoxF v N ch a m c b n z := by
  obtain ⟨⟨x0, x1, x2⟩, y0, y1, y2⟩ := h
  exact ⟨⟨(cell_of_eq e 0).trans x0, (cell_of_eq e 1).trans x1, (cell_of_eq e 2).trans x2⟩, (frozen_of_eq e 0).trans y0, (frozen_of_eq e 1).trans y1, (frozen_of_eq e 2).trans y2⟩
theorem row_block {w : World} {a : Option Addr} {xs : List Int} (h : Row w a xs) (h0 : 0 < xs.length) : ∃ b o, a = some ⟨b, o, none⟩ ∧ b < w.heap.size := by
  obtain ⟨b, o, e, hc⟩ := h 0 h0
  exact ⟨b, o, e, World.block_lt_of_cell? w _ hc⟩

theorem cell_keep {w : World} {b o : Nat} {q : Addr} {v x : Value} (h : w.cell? ⟨b, o, none⟩ = some x) (hne : b ≠ q.block) : (w.setCell q v).cell? ⟨b, o, none⟩ = some x := (cell_of_eq (Below.heap_setCell w q v b hne) o).trans h
theorem InnAt.step {w wB wo w7 w8 : World} {gd Bo gg g' cap cap' : Nat} {sv : Value} {ys : List Int} {v : Int} (h : InnAt w wB gd Bo sv (.slice (some ⟨gg, 0, none⟩) ys.length cap) ys wo) (hb7 : Below wo.heap.size wo w7)
    (ho8 : Own w8 gd (.slice (some ⟨g', 0, none⟩) (ys.length + 1) cap') (ys ++ [v])) (hg : g' = gg ∨ w7.heap.size ≤ g') (hot : ∀ k, k < w7.heap.size → k ≠ gg → w8.heap[k]? = w7.heap[k]?) (hbe : Below gd w7 w8) (hs : w7.heap.size < w8.heap.size)
    (hBo : Bo < wB.heap.size) (hw : w.heap.size ≤ Bo) (hgd : w.heap.size ≤ gd) :
    InnAt w wB gd Bo sv (.slice (some ⟨g', 0, none⟩) (ys.length + 1) cap') (ys ++ [v]) (w8.setCell ⟨Bo, 2, none⟩ (.slice (some ⟨g', 0, none⟩) (ys.length + 1) cap')) := by
  obtain ⟨⟨c0, c1, c2⟩, f2, ⟨g0, cap0, e0, hne, hor⟩, hown, hfr, hbel, hsz⟩ := h
  simp at e0
  obtain ⟨rfl, rfl⟩ := e0
  have h7 := hb7.size
  have e8 : w8.heap[Bo]? = wo.heap[Bo]? := (hot Bo (by omega) (Ne.symm hne)).trans (hb7.block Bo (by omega))
  have hne' : g' ≠ Bo := by rcases hg with h | h <;> omega
  refine ⟨⟨?_, ?_, ?_⟩, ?_, ⟨g', cap', by simp, hne', by rcases hg with h | h <;> omega⟩, own_other ho8 _ _ hne', ?_, ?_, by simp; omega⟩
  · rw [World.cell?_setCell_other _ _ _ _ (by simp)]; exact (cell_of_eq e8 0).trans c0
  · rw [World.cell?_setCell_other _ _ _ _ (by simp)]; exact (cell_of_eq e8 1).trans c1
  · exact cell?_set_same _ _ _ (by rw [(cell_of_eq e8 2).trans c2]; rfl)
  · rw [World.frozen?_setCell]; exact (frozen_of_eq e8 2).trans f2
  · intro b hb hb1 hb2
    rw [heap_setCell_other _ _ _ _ hb1, hot b (by omega) (by rcases hor with h | h <;> omega), hb7.block b (by omega)]
    exact hfr b hb hb1 hb2
  · have h1 : Below w.heap.size w w7 := below_trans hbel ⟨hb7.os, hb7.tape, hb7.output, hb7.size, fun b hb => hb7.block b (by have := hbel.size; omega)⟩
    exact (h1.trans (hbe.mono hgd)).setCell hw _
theorem all64_getD {d : List Int} (h : All64 d) (i : Nat) : I64 (d.getD i 0) := by
  rw [List.getD_eq_getElem?_getD]
  cases e : d[i]? with
  | none => show I64 0; unfold I64; omega
  | some v => exact h _ (List.mem_of_getElem? e)
theorem fill_set {l : List Int} {j P : Nat} (hl : l.length = j) (hj : j < P) (v : Int) : (l ++ List.replicate (P - j) 0).set j v = (l ++ [v]) ++ List.replicate (P - (j + 1)) 0 := by
  obtain ⟨q, rfl⟩ : ∃ q, P = j + 1 + q := ⟨P - (j + 1), by omega⟩
  rw [show j + 1 + q - j = q + 1 by omega, show j + 1 + q - (j + 1) = q by omega, List.replicate_succ, List.set_append_right _ _ (by omega), hl, Nat.sub_self, List.set_cons_zero, List.append_assoc]; rfl
theorem innerOf_error {f g : Int} {x y : Arr} {s : List Int} {P C N k : Nat} {l : List Int} {e : Int} (h : M.seqE k (M.innerCell f g x.ch y.ch x.d y.d P C) = .ok l) (hk : k < N) (he : M.innerCell f g x.ch y.ch x.d y.d P C k = .error e) : M.innerOf f g x y s P C N = .error e := by
  unfold M.innerOf; rw [seqE_error (seqE_stop h he) hk]
theorem own_zeros (W : World) (n B : Nat) (hB : B ≤ W.heap.size) (hn : n ≤ maxLen) : Own (W.alloc (.cells (roomCells n) 3)) B (.slice (some ⟨W.heap.size, 0, none⟩) n n) (List.replicate n 0) :=
  ⟨by simp, .inr ⟨W.heap.size, n, roomCells n, by simp, hB, heap_alloc_new _ _, by simp, hn, by simp [roomCells], by simp [roomCells]⟩⟩

set_option maxHeartbeats 1000000 in
theorem between_num (g : Int) (a b a' b' : Option Addr) (m c n z m' c' n' z' : Nat) (w : World) :
    Calls Tryz.prog 137 #[.int .i64 g, arrV false a m c b n z, arrV false a' m' c' b' n' z'] w fun e w' =>
      e = .returned (.func (.func 190) #[] #[.pointer (some ⟨w.heap.size, 0, none⟩)]) ∧ w'.cell? ⟨w.heap.size, 0, none⟩ = some (.int .i64 g) ∧ Below w.heap.size w w' := by
  go_enter Tryz.func137, Tryz.ntmps137
  go_wp2
  go_ret
  exact ⟨rfl, by simp [go_sem], push (push (push (start w) _) _) _⟩

end Go.Proofs.YtaplaoelamnoiaaGreatDoor

/- The closures of prod.between, for numbers and characters. Condition: rows that lie as lists of ints of 64 bits, within their capacities. -/
namespace Go.Proofs.YtaplaoelamnoiaaGreatDoor
open Go.RowKit

set_option maxHeartbeats 1000000 in
theorem between_smf (g : Int) (a b a' b' : Option Addr) (m c n z m' c' n' z' : Nat) (w : World) :
    Calls Tryz.prog 137 #[.int .i64 g, arrV false a m c b n z, arrV false a' m' c' b' n' z'] w fun e w' =>
      e = .returned (.func (.func 190) #[] #[.pointer (some ⟨w.heap.size, 0, none⟩)]) ∧ w'.cell? ⟨w.heap.size, 0, none⟩ = some (.int .i64 g) ∧ Below w.heap.size w w' := by
  go_enter Tryz.func137, Tryz.ntmps137
  go_wp2
  go_ret
  exact ⟨rfl, by simp [go_sem], push (push (push (start w) _) _) _⟩

set_option maxHeartbeats 1000000 in
theorem between_smt (g : Int) (a b a' b' : Option Addr) (m c n z m' c' n' z' : Nat) (w : World) :
    Calls Tryz.prog 137 #[.int .i64 g, arrV true a m c b n z, arrV true a' m' c' b' n' z'] w fun e w' =>
      e = .returned (.func (.func 190) #[] #[.pointer (some ⟨w.heap.size, 0, none⟩)]) ∧ w'.cell? ⟨w.heap.size, 0, none⟩ = some (.int .i64 g) ∧ Below w.heap.size w w' := by
  go_enter Tryz.func137, Tryz.ntmps137
  go_wp2
  go_ret
  exact ⟨rfl, by simp [go_sem], push (push (push (start w) _) _) _⟩

set_option maxHeartbeats 1000000 in
theorem between_ft (g : Int) (a b a' b' : Option Addr) (m c n z m' c' n' z' : Nat) (w : World) :
    Calls Tryz.prog 137 #[.int .i64 g, arrV false a m c b n z, arrV true a' m' c' b' n' z'] w fun e w' =>
      e = .returned (.func (.func 191) #[] #[.pointer (some ⟨w.heap.size + 1 + 1 + 1, 0, none⟩)]) ∧ w'.cell? ⟨w.heap.size + 1 + 1 + 1, 0, none⟩ = some (.int .i64 (if g = 9 then 1 else 0)) ∧ Below w.heap.size w w' := by
  by_cases e : g = 9
  · have e1 : (g == 9) = true := by rw [beq_iff_eq]; exact e
    rw [if_pos e]
    replace e := Lib.hid e
    go_enter Tryz.func137, Tryz.ntmps137
    go_wp2
    go_ret
    exact ⟨rfl, by simp [go_sem], push (push (push (push (start w) _) _) _) _⟩
  · have e1 : (g == 9) = false := by rw [beq_eq_false_iff_ne]; exact e
    rw [if_neg e]
    replace e := Lib.hid e
    go_enter Tryz.func137, Tryz.ntmps137
    go_wp2
    go_ret
    exact ⟨rfl, by simp [go_sem, cell?_set_same], push (push (push (push (start w) _) _) _) _⟩

set_option maxHeartbeats 1000000 in
theorem between_tf (g : Int) (a b a' b' : Option Addr) (m c n z m' c' n' z' : Nat) (w : World) :
    Calls Tryz.prog 137 #[.int .i64 g, arrV true a m c b n z, arrV false a' m' c' b' n' z'] w fun e w' =>
      e = .returned (.func (.func 191) #[] #[.pointer (some ⟨w.heap.size + 1 + 1 + 1, 0, none⟩)]) ∧ w'.cell? ⟨w.heap.size + 1 + 1 + 1, 0, none⟩ = some (.int .i64 (if g = 9 then 1 else 0)) ∧ Below w.heap.size w w' := by
  by_cases e : g = 9
  · have e1 : (g == 9) = true := by rw [beq_iff_eq]; exact e
    rw [if_pos e]
    replace e := Lib.hid e
    go_enter Tryz.func137, Tryz.ntmps137
    go_wp2
    go_ret
    exact ⟨rfl, by simp [go_sem], push (push (push (push (start w) _) _) _) _⟩
  · have e1 : (g == 9) = false := by rw [beq_eq_false_iff_ne]; exact e
    rw [if_neg e]
    replace e := Lib.hid e
    go_enter Tryz.func137, Tryz.ntmps137
    go_wp2
    go_ret
    exact ⟨rfl, by simp [go_sem, cell?_set_same], push (push (push (push (start w) _) _) _) _⟩

theorem between_same (g : Int) (ch : Bool) (a b a' b' : Option Addr) (m c n z m' c' n' z' : Nat) (w : World) :
    Calls Tryz.prog 137 #[.int .i64 g, arrV ch a m c b n z, arrV ch a' m' c' b' n' z'] w fun e w' =>
      e = .returned (.func (.func 190) #[] #[.pointer (some ⟨w.heap.size, 0, none⟩)]) ∧ w'.cell? ⟨w.heap.size, 0, none⟩ = some (.int .i64 g) ∧ Below w.heap.size w w' := by
  cases ch
  · exact between_smf g a b a' b' m c n z m' c' n' z' w
  · exact between_smt g a b a' b' m c n z m' c' n' z' w

theorem betwT_ff (g a b : Int) (B : Nat) (w : World) (hc : w.cell? ⟨B, 0, none⟩ = some (.int .i64 g)) (ha : I64 a) (hb : I64 b) :
    Calls Tryz.prog 190 #[.int .i64 a, .int .i64 b, .pointer (some ⟨B, 0, none⟩)] w fun e w' => e = .returned (resI (M.tw g false false a b)) ∧ ∃ n, w' = w.drewN n := betw1_any g a b B w hc ha hb

theorem betwT_ft (g a b : Int) (B : Nat) (w : World) (hc : w.cell? ⟨B, 0, none⟩ = some (.int .i64 (if g = 9 then 1 else 0))) (ha : I64 a) (hb : I64 b) :
    Calls Tryz.prog 191 #[.int .i64 a, .int .i64 b, .pointer (some ⟨B, 0, none⟩)] w fun e w' => e = .returned (resI (M.tw g false true a b)) ∧ ∃ n, w' = w.drewN n := (betw2_any _ a b B w hc).mono fun e w' h => ⟨h.1, 0, h.2.symm⟩

theorem betwT_tf (g a b : Int) (B : Nat) (w : World) (hc : w.cell? ⟨B, 0, none⟩ = some (.int .i64 (if g = 9 then 1 else 0))) (ha : I64 a) (hb : I64 b) :
    Calls Tryz.prog 191 #[.int .i64 a, .int .i64 b, .pointer (some ⟨B, 0, none⟩)] w fun e w' => e = .returned (resI (M.tw g true false a b)) ∧ ∃ n, w' = w.drewN n := (betw2_any _ a b B w hc).mono fun e w' h => ⟨h.1, 0, h.2.symm⟩

theorem betwT_tt (g a b : Int) (B : Nat) (w : World) (hc : w.cell? ⟨B, 0, none⟩ = some (.int .i64 g)) (ha : I64 a) (hb : I64 b) :
    Calls Tryz.prog 190 #[.int .i64 a, .int .i64 b, .pointer (some ⟨B, 0, none⟩)] w fun e w' => e = .returned (resI (M.tw g true true a b)) ∧ ∃ n, w' = w.drewN n := betw1_any g a b B w hc ha hb

end Go.Proofs.YtaplaoelamnoiaaGreatDoor
