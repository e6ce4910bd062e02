/- The call shape.Axes returns M.axes of the lengths and the order, in new memory; nothing that was there turns. Condition: both slices read as lists of ints. -/
import Derived.Test.YtiebknfmmanbiaaWkCount
import Derived.Test.YtiebknfmmanbiaaBdA
import Derived.Test.YtiebknfmmanbiaaInBlk
import Derived.Test.YtiebknfmmanbiaaAxes
namespace Go.Proofs.Ytiebknfmmanbiaa
open Go.RowKit

/-- Which axes are taken, as cells. -/
def seenCells (taken : List Int) : Array Value := ((List.range 6).map fun j : Nat => Value.bool (decide ((j : Int) ∈ taken))).toArray

theorem seen_start : seenCells [] = #[.bool false, .bool false, .bool false, .bool false, .bool false, .bool false] := by
  simp [seenCells, List.range_succ]

theorem seen_cell {W : World} {b : Nat} {e : TypeId} {taken : List Int} (h : W.heap[b]? = some (.cells (seenCells taken) e (0, 0))) {t : Int} (h0 : 0 ≤ t) (h6 : t < 6) :
    W.cell? ⟨b, t.toNat, none⟩ = some (.bool (decide (t ∈ taken))) := by
  rw [cell_of_row W b _ _ e (0, 0) h]
  have : t.toNat < 6 := by omega
  simp [seenCells, this, Int.toNat_of_nonneg h0]

theorem seen_set {W : World} {b : Nat} {e : TypeId} {taken : List Int} (h : W.heap[b]? = some (.cells (seenCells taken) e (0, 0))) {t : Int} (h0 : 0 ≤ t) :
    (W.setCell ⟨b, t.toNat, none⟩ (.bool true)).heap[b]? = some (.cells (seenCells (taken ++ [t])) e (0, 0)) := by
  rw [heap_setCell_same W b _ _ e _ h]
  congr 2
  apply Array.toList_inj.1
  simp only [seenCells, Array.toList_setIfInBounds]
  apply List.ext_getElem
  · simp
  · intro i h1 h2
    have hi : i < 6 := by simpa using h1
    rw [List.getElem_set]
    simp only [List.getElem_map, List.getElem_range]
    by_cases he : t.toNat = i
    · have : (i : Int) = t := by omega
      rw [if_pos he]
      simp [this]
    · have : ¬ (i : Int) = t := by omega
      rw [if_neg he]
      simp [this]

set_option maxHeartbeats 1000000 in
theorem axes_any (a b : Option Addr) (s p : List Int) (m n c d : Nat) (w : World) (hs : Row w a s) (hp : Row w b p) (hm : s.length ≤ maxLen) (hn : p.length ≤ maxLen) (em : m = s.length) (en : n = p.length) :
    Calls Try.prog 57 #[.slice a m c, .slice b n d] w (ListPost (M.axes s p) w) := by
  subst em
  subst en
  have hcall := count_any a s _ c w hs hm rfl
  unfold maxLen at hm hn
  cases hc : M.count s with
  | error e0 =>
    rw [hc] at hcall
    dsimp only [resI] at hcall
    replace hcall := Lib.hid hcall
    have hf := Lib.hid (show M.axes s p = .error e0 by rw [M.axes, hc])
    clear hc
    go_enter Try.func57, Try.ntmps57
    go_wp2_with (go_at_call 36; refine hcall.out.mono ?_; rintro e w' ⟨rfl, rfl⟩)
    go_ret2
    exact ListPost.error hf.out rfl (Below.refl _ _)
  | ok q =>
    rw [hc] at hcall
    dsimp only [resI] at hcall
    replace hcall := Lib.hid hcall
    have h6 := (M.count_ok hc).1
    by_cases hl : p.length = s.length
    · have hb1 : (((p.length : Nat) : Int) != ((s.length : Nat) : Int)) = false := by rw [bne_eq_false_iff_eq]; omega
      have hf := Lib.hid (show M.axes s p = M.axesFrom s (List.replicate s.length 0) 0 [] p by rw [M.axes, hc]; exact if_neg (by omega))
      have hmk := run_make_ints s.length (by omega)
      replace hl := Lib.hid hl
      clear hc
      go_enter Try.func57, Try.ntmps57
      go_wp2_with (go_at_call 36; refine hcall.out.mono ?_; rintro e w' ⟨rfl, rfl⟩)
      go_loopw [31] (fun i wr => ∃ k : Nat, k ≤ p.length ∧ i = .int .i64 k ∧ ∃ out : List Int, out.length = s.length ∧ M.axes s p = M.axesFrom s out k (p.take k) (p.drop k) ∧
          wr.heap[w.heap.size]? = some (.cells (seenCells (p.take k)) 99 (0, 0)) ∧ wr.heap[w.heap.size + 1]? = some (.cells (cellsOf out) 3 (0, 0)) ∧ Below w.heap.size w wr)
        (fun i _ => p.length - (intOf i).toNat)
      case atStart =>
        refine ⟨0, Nat.zero_le _, rfl, List.replicate s.length 0, by simp, hf.out, ?_, ?_, ?_⟩
        · rw [Below.heap_alloc _ _ _ (by simp)]
          have := heap_alloc_new w (.cells #[.bool false, .bool false, .bool false, .bool false, .bool false, .bool false] 99)
          rw [List.take_zero, seen_start]
          exact this
        · have := heap_alloc_new (w.alloc (.cells #[.bool false, .bool false, .bool false, .bool false, .bool false, .bool false] 99)) (.cells (zeroCells s.length) 3)
          rw [World.size_alloc] at this
          rw [this]
          simp [zeroCells, cellsOf]
        · exact ((Below.refl _ w).alloc (Nat.le_refl _) _).alloc (by simp) _
      case round =>
        obtain ⟨k, hk, rfl, out, hol, hax, hse, hou, hbel⟩ := hrel
        clear hmk
        replace hax := Lib.hid hax
        replace hol := Lib.hid hol
        by_cases hlt : k < p.length
        · have hlt' : k < s.length := by rw [← hl.out]; exact hlt
          obtain ⟨b1, o1, rfl, hc⟩ := hp.below hbel k hlt
          obtain ⟨b2, o2, rfl, hc2⟩ := hs k hlt'
          have hb2 := World.block_lt_of_cell? w _ hc2
          replace hc2 := (hbel.cell hb2).trans hc2
          have hd := Lib.hid (axesFrom_drop out (p.take k) (s := s) hlt)
          have e0 : p.getD k 0 = p[k] := by simp [hlt]
          have e1 : s.getD k 0 = s[k] := by simp [hlt']
          rw [e0, e1] at hd
          by_cases t1 : p[k] < 0
          · have hx := hax.out
            rw [hd.out, if_pos (.inl t1)] at hx
            replace hx := Lib.hid hx
            go_wp2
            go_ret2
            exact ListPost.error hx.out rfl hbel
          by_cases t2 : (s.length : Int) ≤ p[k]
          · have hx := hax.out
            rw [hd.out, if_pos (.inr (.inl t2))] at hx
            replace hx := Lib.hid hx
            go_wp2
            go_ret2
            exact ListPost.error hx.out rfl hbel
          have t0 : 0 ≤ p[k] := by omega
          have t3 : p[k] < (s.length : Int) := by omega
          have t6 : p[k] < 6 := by omega
          have hsc := seen_cell hse t0 t6
          have hsf := frozen_of_row wr w.heap.size p[k].toNat _ 99 hse
          by_cases t4 : p[k] ∈ p.take k
          · have hx := hax.out
            rw [hd.out, if_pos (.inr (.inr t4))] at hx
            replace hx := Lib.hid hx
            rw [decide_eq_true t4] at hsc
            replace hse := Lib.hid hse
            replace hou := Lib.hid hou
            replace t4 := Lib.hid t4
            go_wp2
            go_ret2
            exact ListPost.error hx.out rfl hbel
          · have hx := hax.out
            rw [hd.out, if_neg (by simp only [not_or]; exact ⟨t1, t2, t4⟩)] at hx
            replace hx := Lib.hid hx
            rw [decide_eq_false t4] at hsc
            have hoc := block_cell hou (show p[k].toNat < out.length by have := hol.out; omega)
            have hof := frozen_of_row wr (w.heap.size + 1) p[k].toNat _ 3 hou
            have hoc' : (wr.setCell ⟨w.heap.size, p[k].toNat, none⟩ (.bool true)).cell? ⟨w.heap.size + 1, p[k].toNat, none⟩ = some (.int .i64 (out.getD p[k].toNat 0)) :=
              (World.cell?_setCell_other _ _ _ _ (by simp)).trans hoc
            clear hoc
            have hc2' : (wr.setCell ⟨w.heap.size, p[k].toNat, none⟩ (.bool true)).cell? ⟨b2, o2 + k, none⟩ = some (.int .i64 (s.getD k 0)) :=
              (World.cell?_setCell_other _ _ _ _ (by simp at hb2; simp <;> omega)).trans hc2
            have hse' := Lib.hid (seen_set hse t0)
            have hou' := Lib.hid (block_set hou p[k].toNat s[k])
            replace hse := Lib.hid hse
            replace hou := Lib.hid hou
            replace t4 := Lib.hid t4
            clear t1 t2 hd e0 e1
            go_wp2
            go_roundw
            case rel =>
              refine ⟨k + 1, by omega, by go_num, out.set p[k].toNat s[k], by simpa using hol.out, ?_, ?_, ?_, (hbel.setCell (p := ⟨w.heap.size, p[k].toNat, none⟩) (Nat.le_refl _) _).setCell (p := ⟨w.heap.size + 1, p[k].toNat, none⟩) (by simp) _⟩
              · rw [hx.out, List.take_succ_eq_append_getElem hlt]
              · rw [Below.heap_setCell _ _ _ _ (by simp), hse'.out, List.take_succ_eq_append_getElem hlt]
              · rw [heap_setCell_same _ _ _ _ _ _ ((Below.heap_setCell _ _ _ _ (by simp)).trans hou.out)]
                rw [heap_setCell_same _ _ _ _ _ _ hou.out] at hou'
                exact hou'.out
            case measure => simp [intOf]; omega
        · have hx := hax.out
          have := hl.out
          rw [List.drop_eq_nil_of_le (by omega)] at hx
          have hf := Lib.hid (show M.axes s p = .ok out from hx)
          replace hou := Lib.hid hou
          replace hse := Lib.hid hse
          clear hx
          go_wp2
          go_ret2
          exact ListPost.ok hf.out rfl (own_of_block hou.out (by omega) hol.out.symm (by have := hol.out; unfold maxLen; omega)) hbel
    · have hb1 : (((p.length : Nat) : Int) != ((s.length : Nat) : Int)) = true := by rw [bne_iff_ne]; omega
      have hf := Lib.hid (show M.axes s p = .error 4 by rw [M.axes, hc]; exact if_pos hl)
      clear hc
      go_enter Try.func57, Try.ntmps57
      go_wp2_with (go_at_call 36; refine hcall.out.mono ?_; rintro e w' ⟨rfl, rfl⟩)
      go_ret2
      exact ListPost.error hf.out rfl (Below.refl _ _)

end Go.Proofs.Ytiebknfmmanbiaa
