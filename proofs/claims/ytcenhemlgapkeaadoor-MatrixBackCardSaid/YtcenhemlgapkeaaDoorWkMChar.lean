/- The call matrix.Characteristic. Condition: rows that lie as lists of ints of 64 bits. -/
import Derived.Test.YtcenhemlgapkeaaDoorWkChar
import Derived.Test.YtcenhemlgapkeaaDoorSqRead
import Derived.Test.YtcenhemlgapkeaaDoorBdA
namespace Go.Proofs.YtcenhemlgapkeaaDoor
open Go.RowKit

/-- The characteristic's numbers, those without a power first. -/
def charL (n : Nat) (A : Nat → Nat → Int) : List Int := (List.range (n + 1)).map fun j => wrap64 ((Mx.chi n A).co (n - j))
theorem charL_length (n : Nat) (A : Nat → Nat → Int) : (charL n A).length = n + 1 := by simp [charL]
theorem charL_get {n : Nat} (A : Nat → Nat → Int) {j : Nat} (h : j < n + 1) : (charL n A).getD j 0 = wrap64 ((Mx.chi n A).co (n - j)) := by simp [charL, h]

namespace M
def mchar (x : Arr) : Except Int (List Int) := if sqFault x 6 = 0 then .ok (charL (sqN x) (sqA (sqN x) x.d)) else .error (sqFault x 6)
end M

/-- The last i of them. -/
def revF (n : Nat) (A : Nat → Nat → Int) (i a : Nat) : Int := if n < a + i then (Mx.chi n A).co (n - a) else 0
theorem revF_zero (n : Nat) (A : Nat → Nat → Int) : rowCells (n + 1) (fun _ => 0) = rowCells (n + 1) (revF n A 0) := row_congr fun a ha => by unfold revF; rw [if_neg (by omega)]
theorem revF_step {n i d : Nat} (A : Nat → Nat → Int) (h : n = i + d) : putR (revF n A i) d ((Mx.chi n A).co i) = revF n A (i + 1) := by
  funext a
  unfold putR revF
  by_cases e : a = d
  · subst e; rw [if_pos rfl, if_pos (by omega), show n - a = i by omega]
  · rw [if_neg e]
    by_cases h2 : n < a + i
    · rw [if_pos h2, if_pos (by omega)]
    · rw [if_neg h2, if_neg (by omega)]
theorem revF_end (n : Nat) (A : Nat → Nat → Int) : (rowCells (n + 1) (revF n A (n + 1))).toList = (charL n A).map (Value.int .i64) := by
  simp only [rowCells, charL, List.map_map]
  apply List.map_congr_left
  intro a ha
  have := List.mem_range.1 ha
  simp only [Function.comp]
  unfold revF
  rw [if_pos (by omega)]

set_option maxRecDepth 20000 in
set_option maxHeartbeats 8000000 in
theorem mchar_any (ch : Bool) (a b : Option Addr) (s d : List Int) (m c n z : Nat) (w : World) (hs : Row w a s) (hd : Row w b d) (ls : s.length ≤ maxLen) (ld : d.length ≤ maxLen) (hd64 : All64 d) (em : m = s.length) (en : n = d.length) :
    Calls Tryd.prog 27 #[arrV ch a m c b n z] w fun e w' => ListPost (M.mchar ⟨ch, s, d⟩) w e w' := by
  subst em
  subst en
  have hread := fun w h1 h2 => sqRead_any ch a b s d _ c _ z w h1 h2 ls ld hd64 rfl rfl
  have E := (((Env.start w).addRow hd).addRow hs).box ch a s.length c b d.length z
  replace hread := Lib.hid hread
  by_cases hf : M.sqFault ⟨ch, s, d⟩ 6 = 0
  · have hr := Lib.hid (show M.mchar ⟨ch, s, d⟩ = .ok (charL (M.sqN ⟨ch, s, d⟩) (M.sqA (M.sqN ⟨ch, s, d⟩) d)) from if_pos hf)
    replace hf := Lib.hid hf
    go_enter Tryd.func27, Tryd.ntmps27
    go_wp2_with fail
    refine (hread.out _ (E.getRow 1 rfl) (E.getRow 2 rfl)).mono ?_
    intro e w1 hp
    obtain ⟨rfl, hn⟩ := hp.1 hf.out
    have hb := hp.2.2
    clear hp
    replace E := E.step hb
    clear hb
    dsimp only at hn ⊢
    generalize M.sqN ⟨ch, s, d⟩ = k at *
    generalize M.sqA k d = A at *
    have X := heap_alloc_new w1 (.cells (sqCells 0 zeroM) 73)
    have Y := setRow_heap _ _ _ (sqCells k A) _ _ X
    have hb2 := below_setRow (E.bel.alloc E.bel.size (.cells (sqCells 0 zeroM) 73)) w1.heap.size (sqCells k A) E.bel.size
    go_wp2_with (first
      | (refine wpList_allocBy rfl 73 rfl (some 4) rfl w1.heap.size rfl (sqCells 0 zeroM) Tryd.zeroSq ?_)
      | (refine wpList_store_row rfl 73 _ _ rfl w1.heap.size _ rfl rfl _ _ X (infoSq' _ _) (sizeSq _ _ _ _) (sq_one _ _) ?_)
      | (refine wpList_load_row rfl 73 _ rfl w1.heap.size rfl _ _ _ _ Y Tryd.underlying73 rfl (infoSq' _ _) ?_))
    refine (char_any k A _ hn).mono ?_
    rintro e w2 ⟨g, rfl, hg, hh, hb⟩
    have hb3 := below_trans hb2 hb
    have hB := hb3.size
    have gl := lt_of_some hh
    clear X Y hb2 hb hg E
    obtain ⟨w4, hw4⟩ : ∃ w4 : World, w4 = w2.alloc (.cells (roomCells (k + 1)) 3) := ⟨_, rfl⟩
    have N4 := heap_alloc_new w2 (.cells (roomCells (k + 1)) 3)
    rw [room_row, revF_zero k A, ← revF_zero k A, ← room_row, ← hw4, room_row, revF_zero k A] at N4
    have C4 := (heap_alloc_old w2 (.cells (roomCells (k + 1)) 3) gl).trans hh
    have B4 := hb3.alloc hB (.cells (roomCells (k + 1)) 3)
    rw [← hw4] at C4 B4
    obtain ⟨gn, hgn⟩ : ∃ gn, gn = w2.heap.size := ⟨_, rfl⟩
    have hmk : (Instr.makeSlice 22 (.int .i64 ((k : Int) + 1)) (.int .i64 ((k : Int) + 1))).run Tryd.prog w2 = .ok (.slice (some ⟨gn, 0, none⟩) (k + 1) (k + 1)) w4 := by
      rw [hw4, hgn]; exact run_make_room (k + 1) (k + 1) (Nat.le_refl _) (by omega) w2
    rw [← hgn] at N4 gl hB
    clear hh hb3
    replace hw4 := Lib.hid hw4
    replace hgn := Lib.hid hgn
    replace N4 := Lib.hid N4
    replace C4 := Lib.hid C4
    go_wp2
    go_loopw [25] (fun v wr => ∃ i : Nat, i ≤ k + 1 ∧ v = .int .i64 i ∧ wr.heap[g]? = some (.cells (rowCells (k + 1) (Mx.chi k A).co) 3 (0, 0)) ∧ wr.heap[gn]? = some (.cells (rowCells (k + 1) (revF k A i)) 3 (0, 0)) ∧ Below w.heap.size w wr) (fun v _ => k + 1 - (intOf v).toNat)
    case atStart => exact ⟨0, Nat.zero_le _, rfl, C4.out, N4.out, B4⟩
    case round =>
      clear hmk N4 C4 B4
      obtain ⟨i, hi, rfl, hc, hh, hbel⟩ := hrel
      by_cases hli : i < k + 1
      · obtain ⟨q, hq⟩ : ∃ q, k = i + q := ⟨k - i, by omega⟩
        have hsub : (k : Int) - (i : Int) = (q : Int) := by omega
        have hql : q < k + 1 := by omega
        have c1 := row_cell hc hli
        have c2 := row_cell hh hql
        have f2 := frozen_of_row wr gn q _ 3 hh
        have hset := row_set hh q ((Mx.chi k A).co i)
        rw [revF_step A hq] at hset
        have hc2 := (Below.heap_setCell wr ⟨gn, q, none⟩ (.int .i64 (wrap64 ((Mx.chi k A).co i))) g (by show g ≠ gn; omega)).trans hc
        generalize wrap64 ((Mx.chi k A).co i) = x1 at *
        replace hset := Lib.hid hset
        replace hc := Lib.hid hc
        replace hc2 := Lib.hid hc2
        replace hh := Lib.hid hh
        replace hq := Lib.hid hq
        go_wp2
        go_roundw
        case rel => exact ⟨i + 1, by omega, by go_num, hc2.out, hset.out, hbel.setCell (p := ⟨gn, q, none⟩) (by show w.heap.size ≤ gn; omega) _⟩
        case measure => simp [intOf]; omega
      obtain rfl : i = k + 1 := by omega
      have hown := own_lit wr w.heap.size gn _ (charL k A) (k + 1) (by omega) hh (revF_end k A) (by rw [charL_length]) (by unfold maxLen; omega)
      replace hown := Lib.hid hown
      replace hh := Lib.hid hh
      replace hc := Lib.hid hc
      go_wp2
      go_ret2
      exact .ok hr.out rfl hown.out hbel
  · have hr := Lib.hid (show M.mchar ⟨ch, s, d⟩ = .error (M.sqFault ⟨ch, s, d⟩ 6) from if_neg hf)
    replace hf := Lib.hid hf
    go_enter Tryd.func27, Tryd.ntmps27
    go_wp2_with fail
    refine (hread.out _ (E.getRow 1 rfl) (E.getRow 2 rfl)).mono ?_
    intro e w1 hp
    obtain rfl := hp.2.1 hf.out
    have hb := hp.2.2
    clear hp
    replace E := E.step hb
    clear hb
    generalize M.sqFault ⟨ch, s, d⟩ 6 = k at *
    have X := heap_alloc_new w1 (.cells (sqCells 0 zeroM) 73)
    have hb2 := below_setRow (E.bel.alloc E.bel.size (.cells (sqCells 0 zeroM) 73)) w1.heap.size (sqCells 0 zeroM) E.bel.size
    go_wp2_with (first
      | (refine wpList_allocBy rfl 73 rfl (some 4) rfl w1.heap.size rfl (sqCells 0 zeroM) Tryd.zeroSq ?_)
      | (refine wpList_store_row rfl 73 _ _ rfl w1.heap.size _ rfl rfl _ _ X (infoSq' _ _) (sizeSq _ _ _ _) (sq_one _ _) ?_))
    go_ret2
    exact .error hr.out rfl hb2

end Go.Proofs.YtcenhemlgapkeaaDoor
