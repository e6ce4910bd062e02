/- Texts that lie in one file: what is plain, rows, boxes, squares, and what is known of a world. No condition. -/
import Derived.Test.YtcenhemlgapkeaaDoorBdA
import Derived.Maps.AppendAt
import Derived.Test.YtcenhemlgapkeaaDoorBdS
import Derived.Laws.Rows
import Derived.Test.YtcenhemlgapkeaaDoorBdY
import Derived.Test.YtcenhemlgapkeaaDoorOutAt
import Derived.Test.YtcenhemlgapkeaaDoorOwnAt
import Derived.Deep.RegionHeld3
import Derived.Deep.Cut
import Derived.Deep.CutRange
/- An int appended to an own row, with word of the block that it lies in afterwards, and of all that is left alone. Condition: fewer than 2^44 ints. -/
namespace Go.Proofs.YtcenhemlgapkeaaDoor
open Go.RowKit

theorem own_block {w : World} {B : Nat} {g l cap : Nat} {ys : List Int} (h : Own w B (.slice (some ⟨g, 0, none⟩) l cap) ys) : B ≤ g ∧ g < w.heap.size := by
  rcases h.2 with ⟨e, _⟩ | ⟨g', cap', cur, e, hb, hg, _⟩
  · simp at e
  · simp at e
    obtain ⟨⟨rfl, _⟩, rfl, rfl⟩ := e
    exact ⟨hb, (Array.getElem?_eq_some_iff.1 hg).1⟩

theorem app_at {w : World} {ops : Array Oper} {rest : List Oper} {o : Oper} {a : Act} {Q : Exit → Act → World → Prop} (hgd : o.guard = none) (s x : Operand)
    (ho : o.op = .call { callee := .builtin .append, args := #[s, x], argTypes := #[22, 22] })
    (B g l cap : Nat) (ys : List Int) (n : Int) (hs : a.eval s = .slice (some ⟨g, 0, none⟩) l cap) (hown : Own w B (.slice (some ⟨g, 0, none⟩) l cap) ys) (hx : a.eval x = .slice (some ⟨w.heap.size, 0, none⟩) 1 1)
    (hlen : ys.length < 17592186044416) (hB : B ≤ w.heap.size) (m : Nat) (em : m = ys.length + 1)
    (h : ∀ g' cap' w', Own w' B (.slice (some ⟨g', 0, none⟩) m cap') (ys ++ [n]) → (g' = g ∨ w.heap.size ≤ g') → (∀ k, k < w.heap.size → k ≠ g → w'.heap[k]? = w.heap[k]?) → Below B w w' → w.heap.size < w'.heap.size →
      wpList Tryd.prog ops Q rest (a.put o.dst (.slice (some ⟨g', 0, none⟩) m cap')) w') :
    wpList Tryd.prog ops Q (o :: rest) a (w.alloc (.cells #[.int .i64 n] 3)) := by
  obtain ⟨i0, hi, hz0, hz1, hz2⟩ := info_parts Tryd.infoInt
  refine wpList_append_own_at _ hgd s x 22 ho B 3 i0 (.int .i64 0) 1 8 Tryd.underlying22 hi hz0 hz1 hz2 rfl (by decide) _ _ _ hs (hown.alloc _)
    ⟨w.heap.size, 0, none⟩ 1 1 [.int .i64 n] hx rfl ?_ ?_ (by simp only [maxLen]; omega) (by omega) (by simp; omega) ?_
  · intro j u hj
    match j, hj with
    | 0, hj => simp at hj; subst hj; simp [Addr.add]
  · intro u hu; simp at hu; subst hu; rfl
  · intro v' w' h1 h2 _ h4
    have hown' : Own w' B v' (ys ++ [n]) := by unfold Own; simpa using h1
    have hbl := own_block hown
    have hsz := h2.size
    simp at hsz
    have hbe : Below B w w' := ((Below.refl B w).alloc hB _).grown h2 (by simp; omega) (fun k hk => by simp [Value.ownBlock] at hk; omega)
    rcases hown'.2 with ⟨rfl, hn⟩ | ⟨g', cap', cur, rfl, hg, _⟩
    · simp at hn
    · have e2 : (ys ++ [n]).length = m := by rw [em]; simp
      rw [e2] at hown' ⊢
      refine h g' cap' w' hown' ?_ ?_ hbe (by omega)
      · rcases h4 with h4 | h4
        · simp [Value.ownBlock] at h4; exact .inl h4
        · simp [Value.ownBlock] at h4; exact .inr (by omega)
      · intro k hk hne
        have e3 := h2.block k (by simp; omega) (by simp [Value.ownBlock]; exact hne)
        rw [e3]
        exact heap_alloc_old _ _ hk

end Go.Proofs.YtcenhemlgapkeaaDoor

/- Rows of whole numbers, wrapped, as cells of a block of their own. No condition. -/
namespace Go.Proofs.YtcenhemlgapkeaaDoor
open Go.RowKit

/-- k whole numbers, wrapped. -/
def rowCells (k : Nat) (f : Nat → Int) : Array Value := ((List.range k).map fun i => Value.int .i64 (wrap64 (f i))).toArray
theorem row_size (k : Nat) (f : Nat → Int) : (rowCells k f).size = k := by simp [rowCells]
theorem row_get {k : Nat} (f : Nat → Int) {i : Nat} (hi : i < k) : (rowCells k f)[i]? = some (.int .i64 (wrap64 (f i))) := by simp [rowCells, hi]
/-- Another number at a place. -/
def putR (f : Nat → Int) (i : Nat) (v : Int) (a : Nat) : Int := if a = i then v else f a
theorem row_put {k : Nat} (f : Nat → Int) {i : Nat} (v : Int) : (rowCells k f).setIfInBounds i (.int .i64 (wrap64 v)) = rowCells k (putR f i v) := by
  apply Array.toList_inj.1
  apply List.ext_getElem
  · simp [rowCells]
  · intro j h1 h2
    simp only [Array.toList_setIfInBounds, List.getElem_set, rowCells, List.getElem_map, List.getElem_range, putR]
    by_cases e : i = j
    · rw [if_pos e, if_pos e.symm]
    · rw [if_neg e, if_neg (fun h => e h.symm)]
theorem row_cell {W : World} {b k : Nat} {e : TypeId} {f : Nat → Int} (h : W.heap[b]? = some (.cells (rowCells k f) e (0, 0))) {i : Nat} (hi : i < k) : W.cell? ⟨b, i, none⟩ = some (.int .i64 (wrap64 (f i))) := by
  rw [cell_of_row W b i _ e (0, 0) h]; exact row_get f hi
theorem row_set {W : World} {b k : Nat} {e : TypeId} {f : Nat → Int} (h : W.heap[b]? = some (.cells (rowCells k f) e (0, 0))) (i : Nat) (v : Int) :
    (W.setCell ⟨b, i, none⟩ (.int .i64 (wrap64 v))).heap[b]? = some (.cells (rowCells k (putR f i v)) e (0, 0)) := by
  rw [heap_setCell_same W b _ _ e _ h, row_put]
theorem room_row (k : Nat) : roomCells k = rowCells k fun _ => 0 := by
  have z : wrap64 0 = 0 := wrap_id (by unfold I64; omega)
  apply Array.toList_inj.1
  simp only [roomCells, rowCells, z]
  apply List.ext_getElem
  · simp
  · intro j h1 h2; simp
theorem row_congr {k : Nat} {f g : Nat → Int} (h : ∀ i, i < k → f i = g i) : rowCells k f = rowCells k g := by
  unfold rowCells
  congr 1
  apply List.map_congr_left
  intro i hi
  rw [h i (List.mem_range.1 hi)]

end Go.Proofs.YtcenhemlgapkeaaDoor

/- What the walk of prod.Inner leans on: a table that is being built, the closures. No condition. -/
namespace Go.Proofs.YtcenhemlgapkeaaDoor
open Go.RowKit

/-- An inner product that is being built. -/
def InnAt (w wB : World) (gd Bo : Nat) (sv dv : Value) (ys : List Int) (wr : World) : Prop :=
  (wr.cell? ⟨Bo, 0, none⟩ = some (.bool false) ∧ wr.cell? ⟨Bo, 1, none⟩ = some sv ∧ wr.cell? ⟨Bo, 2, none⟩ = some dv) ∧ wr.frozen? ⟨Bo, 2, none⟩ = false ∧
  (∃ g cap, dv = .slice (some ⟨g, 0, none⟩) ys.length cap ∧ g ≠ Bo ∧ (g = gd ∨ wB.heap.size ≤ g)) ∧ Own wr gd dv ys ∧ (∀ b, b < wB.heap.size → b ≠ Bo → b ≠ gd → wr.heap[b]? = wB.heap[b]?) ∧ Below w.heap.size w wr ∧ wB.heap.size ≤ wr.heap.size
theorem row_same {w v : World} {a : Option Addr} {xs : List Int} (h : Row w a xs) (hs : ∀ p, a = some p → v.heap[p.block]? = w.heap[p.block]?) : Row v a xs := by
  intro i hi
  obtain ⟨b, o, rfl, hc⟩ := h i hi
  exact ⟨b, o, rfl, (cell_of_eq (hs _ rfl) (o + i)).trans hc⟩
theorem boxF_same {w v : World} {N : Nat} {ch : Bool} {a : Option Addr} {m c : Nat} {b : Option Addr} {n z : Nat} (h : BoxF w N ch a m c b n z) (e : v.heap[N]? = w.heap[N]?) : BoxF v N ch a m c b n z := by
  obtain ⟨⟨x0, x1, x2⟩, y0, y1, y2⟩ := h
  exact ⟨⟨(cell_of_eq e 0).trans x0, (cell_of_eq e 1).trans x1, (cell_of_eq e 2).trans x2⟩, (frozen_of_eq e 0).trans y0, (frozen_of_eq e 1).trans y1, (frozen_of_eq e 2).trans y2⟩
theorem row_block {w : World} {a : Option Addr} {xs : List Int} (h : Row w a xs) (h0 : 0 < xs.length) : ∃ b o, a = some ⟨b, o, none⟩ ∧ b < w.heap.size := by
  obtain ⟨b, o, e, hc⟩ := h 0 h0
  exact ⟨b, o, e, World.block_lt_of_cell? w _ hc⟩

theorem cell_keep {w : World} {b o : Nat} {q : Addr} {v x : Value} (h : w.cell? ⟨b, o, none⟩ = some x) (hne : b ≠ q.block) : (w.setCell q v).cell? ⟨b, o, none⟩ = some x := (cell_of_eq (Below.heap_setCell w q v b hne) o).trans h
theorem InnAt.step {w wB wo w7 w8 : World} {gd Bo gg g' cap cap' : Nat} {sv : Value} {ys : List Int} {v : Int} (h : InnAt w wB gd Bo sv (.slice (some ⟨gg, 0, none⟩) ys.length cap) ys wo) (hb7 : Below wo.heap.size wo w7)
    (ho8 : Own w8 gd (.slice (some ⟨g', 0, none⟩) (ys.length + 1) cap') (ys ++ [v])) (hg : g' = gg ∨ w7.heap.size ≤ g') (hot : ∀ k, k < w7.heap.size → k ≠ gg → w8.heap[k]? = w7.heap[k]?) (hbe : Below gd w7 w8) (hs : w7.heap.size < w8.heap.size)
    (hBo : Bo < wB.heap.size) (hw : w.heap.size ≤ Bo) (hgd : w.heap.size ≤ gd) :
    InnAt w wB gd Bo sv (.slice (some ⟨g', 0, none⟩) (ys.length + 1) cap') (ys ++ [v]) (w8.setCell ⟨Bo, 2, none⟩ (.slice (some ⟨g', 0, none⟩) (ys.length + 1) cap')) := by
  obtain ⟨⟨c0, c1, c2⟩, f2, ⟨g0, cap0, e0, hne, hor⟩, hown, hfr, hbel, hsz⟩ := h
  simp at e0
  obtain ⟨rfl, rfl⟩ := e0
  have h7 := hb7.size
  have e8 : w8.heap[Bo]? = wo.heap[Bo]? := (hot Bo (by omega) (Ne.symm hne)).trans (hb7.block Bo (by omega))
  have hne' : g' ≠ Bo := by rcases hg with h | h <;> omega
  refine ⟨⟨?_, ?_, ?_⟩, ?_, ⟨g', cap', by simp, hne', by rcases hg with h | h <;> omega⟩, own_other ho8 _ _ hne', ?_, ?_, by simp; omega⟩
  · rw [World.cell?_setCell_other _ _ _ _ (by simp)]; exact (cell_of_eq e8 0).trans c0
  · rw [World.cell?_setCell_other _ _ _ _ (by simp)]; exact (cell_of_eq e8 1).trans c1
  · exact cell?_set_same _ _ _ (by rw [(cell_of_eq e8 2).trans c2]; rfl)
  · rw [World.frozen?_setCell]; exact (frozen_of_eq e8 2).trans f2
  · intro b hb hb1 hb2
    rw [heap_setCell_other _ _ _ _ hb1, hot b (by omega) (by rcases hor with h | h <;> omega), hb7.block b (by omega)]
    exact hfr b hb hb1 hb2
  · have h1 : Below w.heap.size w w7 := below_trans hbel ⟨hb7.os, hb7.tape, hb7.output, hb7.size, fun b hb => hb7.block b (by have := hbel.size; omega)⟩
    exact (h1.trans (hbe.mono hgd)).setCell hw _
theorem all64_getD {d : List Int} (h : All64 d) (i : Nat) : I64 (d.getD i 0) := by
  rw [List.getD_eq_getElem?_getD]
  cases e : d[i]? with
  | none => show I64 0; unfold I64; omega
  | some v => exact h _ (List.mem_of_getElem? e)
theorem fill_set {l : List Int} {j P : Nat} (hl : l.length = j) (hj : j < P) (v : Int) : (l ++ List.replicate (P - j) 0).set j v = (l ++ [v]) ++ List.replicate (P - (j + 1)) 0 := by
  obtain ⟨q, rfl⟩ : ∃ q, P = j + 1 + q := ⟨P - (j + 1), by omega⟩
  rw [show j + 1 + q - j = q + 1 by omega, show j + 1 + q - (j + 1) = q by omega, List.replicate_succ, List.set_append_right _ _ (by omega), hl, Nat.sub_self, List.set_cons_zero, List.append_assoc]; rfl
theorem innerOf_error {f g : Int} {x y : Arr} {s : List Int} {P C N k : Nat} {l : List Int} {e : Int} (h : M.seqE k (M.innerCell f g x.ch y.ch x.d y.d P C) = .ok l) (hk : k < N) (he : M.innerCell f g x.ch y.ch x.d y.d P C k = .error e) : M.innerOf f g x y s P C N = .error e := by
  unfold M.innerOf; rw [seqE_error (seqE_stop h he) hk]
theorem own_zeros (W : World) (n B : Nat) (hB : B ≤ W.heap.size) (hn : n ≤ maxLen) : Own (W.alloc (.cells (roomCells n) 3)) B (.slice (some ⟨W.heap.size, 0, none⟩) n n) (List.replicate n 0) :=
  ⟨by simp, .inr ⟨W.heap.size, n, roomCells n, by simp, hB, heap_alloc_new _ _, by simp, hn, by simp [roomCells], by simp [roomCells]⟩⟩

set_option maxHeartbeats 1000000 in
theorem between_num (g : Int) (a b a' b' : Option Addr) (m c n z m' c' n' z' : Nat) (w : World) :
    Calls Tryd.prog 71 #[.int .i64 g, arrV false a m c b n z, arrV false a' m' c' b' n' z'] w fun e w' =>
      e = .returned (.func (.func 87) #[] #[.pointer (some ⟨w.heap.size, 0, none⟩)]) ∧ w'.cell? ⟨w.heap.size, 0, none⟩ = some (.int .i64 g) ∧ Below w.heap.size w w' := by
  go_enter Tryd.func71, Tryd.ntmps71
  go_wp2
  go_ret
  exact ⟨rfl, by simp [go_sem], push (push (push (start w) _) _) _⟩

end Go.Proofs.YtcenhemlgapkeaaDoor

/- The closures of prod.between, for numbers and characters. Condition: rows that lie as lists of ints of 64 bits, within their capacities. -/
namespace Go.Proofs.YtcenhemlgapkeaaDoor
open Go.RowKit

set_option maxHeartbeats 1000000 in
theorem between_smf (g : Int) (a b a' b' : Option Addr) (m c n z m' c' n' z' : Nat) (w : World) :
    Calls Tryd.prog 71 #[.int .i64 g, arrV false a m c b n z, arrV false a' m' c' b' n' z'] w fun e w' =>
      e = .returned (.func (.func 87) #[] #[.pointer (some ⟨w.heap.size, 0, none⟩)]) ∧ w'.cell? ⟨w.heap.size, 0, none⟩ = some (.int .i64 g) ∧ Below w.heap.size w w' := by
  go_enter Tryd.func71, Tryd.ntmps71
  go_wp2
  go_ret
  exact ⟨rfl, by simp [go_sem], push (push (push (start w) _) _) _⟩

set_option maxHeartbeats 1000000 in
theorem between_smt (g : Int) (a b a' b' : Option Addr) (m c n z m' c' n' z' : Nat) (w : World) :
    Calls Tryd.prog 71 #[.int .i64 g, arrV true a m c b n z, arrV true a' m' c' b' n' z'] w fun e w' =>
      e = .returned (.func (.func 87) #[] #[.pointer (some ⟨w.heap.size, 0, none⟩)]) ∧ w'.cell? ⟨w.heap.size, 0, none⟩ = some (.int .i64 g) ∧ Below w.heap.size w w' := by
  go_enter Tryd.func71, Tryd.ntmps71
  go_wp2
  go_ret
  exact ⟨rfl, by simp [go_sem], push (push (push (start w) _) _) _⟩

set_option maxHeartbeats 1000000 in
theorem between_ft (g : Int) (a b a' b' : Option Addr) (m c n z m' c' n' z' : Nat) (w : World) :
    Calls Tryd.prog 71 #[.int .i64 g, arrV false a m c b n z, arrV true a' m' c' b' n' z'] w fun e w' =>
      e = .returned (.func (.func 88) #[] #[.pointer (some ⟨w.heap.size + 1 + 1 + 1, 0, none⟩)]) ∧ w'.cell? ⟨w.heap.size + 1 + 1 + 1, 0, none⟩ = some (.int .i64 (if g = 9 then 1 else 0)) ∧ Below w.heap.size w w' := by
  by_cases e : g = 9
  · have e1 : (g == 9) = true := by rw [beq_iff_eq]; exact e
    rw [if_pos e]
    replace e := Lib.hid e
    go_enter Tryd.func71, Tryd.ntmps71
    go_wp2
    go_ret
    exact ⟨rfl, by simp [go_sem], push (push (push (push (start w) _) _) _) _⟩
  · have e1 : (g == 9) = false := by rw [beq_eq_false_iff_ne]; exact e
    rw [if_neg e]
    replace e := Lib.hid e
    go_enter Tryd.func71, Tryd.ntmps71
    go_wp2
    go_ret
    exact ⟨rfl, by simp [go_sem, cell?_set_same], push (push (push (push (start w) _) _) _) _⟩

set_option maxHeartbeats 1000000 in
theorem between_tf (g : Int) (a b a' b' : Option Addr) (m c n z m' c' n' z' : Nat) (w : World) :
    Calls Tryd.prog 71 #[.int .i64 g, arrV true a m c b n z, arrV false a' m' c' b' n' z'] w fun e w' =>
      e = .returned (.func (.func 88) #[] #[.pointer (some ⟨w.heap.size + 1 + 1 + 1, 0, none⟩)]) ∧ w'.cell? ⟨w.heap.size + 1 + 1 + 1, 0, none⟩ = some (.int .i64 (if g = 9 then 1 else 0)) ∧ Below w.heap.size w w' := by
  by_cases e : g = 9
  · have e1 : (g == 9) = true := by rw [beq_iff_eq]; exact e
    rw [if_pos e]
    replace e := Lib.hid e
    go_enter Tryd.func71, Tryd.ntmps71
    go_wp2
    go_ret
    exact ⟨rfl, by simp [go_sem], push (push (push (push (start w) _) _) _) _⟩
  · have e1 : (g == 9) = false := by rw [beq_eq_false_iff_ne]; exact e
    rw [if_neg e]
    replace e := Lib.hid e
    go_enter Tryd.func71, Tryd.ntmps71
    go_wp2
    go_ret
    exact ⟨rfl, by simp [go_sem, cell?_set_same], push (push (push (push (start w) _) _) _) _⟩

theorem between_same (g : Int) (ch : Bool) (a b a' b' : Option Addr) (m c n z m' c' n' z' : Nat) (w : World) :
    Calls Tryd.prog 71 #[.int .i64 g, arrV ch a m c b n z, arrV ch a' m' c' b' n' z'] w fun e w' =>
      e = .returned (.func (.func 87) #[] #[.pointer (some ⟨w.heap.size, 0, none⟩)]) ∧ w'.cell? ⟨w.heap.size, 0, none⟩ = some (.int .i64 g) ∧ Below w.heap.size w w' := by
  cases ch
  · exact between_smf g a b a' b' m c n z m' c' n' z' w
  · exact between_smt g a b a' b' m c n z m' c' n' z' w

theorem betwT_ff (g a b : Int) (B : Nat) (w : World) (hc : w.cell? ⟨B, 0, none⟩ = some (.int .i64 g)) (ha : I64 a) (hb : I64 b) :
    Calls Tryd.prog 87 #[.int .i64 a, .int .i64 b, .pointer (some ⟨B, 0, none⟩)] w fun e w' => e = .returned (resI (M.tw g false false a b)) ∧ ∃ n, w' = w.drewN n := betw1_any g a b B w hc ha hb

theorem betwT_ft (g a b : Int) (B : Nat) (w : World) (hc : w.cell? ⟨B, 0, none⟩ = some (.int .i64 (if g = 9 then 1 else 0))) (ha : I64 a) (hb : I64 b) :
    Calls Tryd.prog 88 #[.int .i64 a, .int .i64 b, .pointer (some ⟨B, 0, none⟩)] w fun e w' => e = .returned (resI (M.tw g false true a b)) ∧ ∃ n, w' = w.drewN n := (betw2_any _ a b B w hc).mono fun e w' h => ⟨h.1, 0, h.2.symm⟩

theorem betwT_tf (g a b : Int) (B : Nat) (w : World) (hc : w.cell? ⟨B, 0, none⟩ = some (.int .i64 (if g = 9 then 1 else 0))) (ha : I64 a) (hb : I64 b) :
    Calls Tryd.prog 88 #[.int .i64 a, .int .i64 b, .pointer (some ⟨B, 0, none⟩)] w fun e w' => e = .returned (resI (M.tw g true false a b)) ∧ ∃ n, w' = w.drewN n := (betw2_any _ a b B w hc).mono fun e w' h => ⟨h.1, 0, h.2.symm⟩

theorem betwT_tt (g a b : Int) (B : Nat) (w : World) (hc : w.cell? ⟨B, 0, none⟩ = some (.int .i64 g)) (ha : I64 a) (hb : I64 b) :
    Calls Tryd.prog 87 #[.int .i64 a, .int .i64 b, .pointer (some ⟨B, 0, none⟩)] w fun e w' => e = .returned (resI (M.tw g true true a b)) ∧ ∃ n, w' = w.drewN n := betw1_any g a b B w hc ha hb

end Go.Proofs.YtcenhemlgapkeaaDoor
