/- The document's Adjugate: minors. Condition: at most six rows, in a row of ints. -/
import Derived.Test.YtcenhemlgapkeaaDoorRefMinor
namespace Go.Proofs.YtcenhemlgapkeaaDoor
open Go.RowKit

/-- All but j, the first k told. -/
def nbL (n j k : Nat) : List Bool := (List.range n).map fun l => decide (l < k) && !decide (l = j)
theorem nbL_length (n j k : Nat) : (nbL n j k).length = n := by simp [nbL]
theorem nbL_zero (n j : Nat) : nbL n j 0 = List.replicate n false := by apply List.ext_getElem <;> simp [nbL]
theorem nbL_set (n j k : Nat) : (nbL n j k).set k (!decide (k = j)) = nbL n j (k + 1) := by
  apply List.ext_getElem
  · simp [nbL]
  · intro p h1 h2
    rw [List.getElem_set]
    simp only [nbL, List.getElem_map, List.getElem_range]
    by_cases e : k = p
    · subst e; rw [if_pos rfl, decide_eq_true (by omega : k < k + 1), Bool.true_and]
    · rw [if_neg e]
      have : decide (p < k) = decide (p < k + 1) := decide_eq_decide.2 (by omega)
      rw [this]
/-- All numbers but j. -/
def butL (n j : Nat) : List Nat := (List.range n).filter fun k => !decide (k = j)
theorem nbL_places (n j : Nat) : placesTo (nbL n j n) true n = butL n j := by
  unfold placesTo butL
  refine List.filter_congr fun k hk => ?_
  have hk := List.mem_range.1 hk
  rw [List.getD_eq_getElem?_getD]
  simp only [nbL, List.getElem?_map, List.getElem?_range hk, Option.map_some, Option.getD_some]
  rw [decide_eq_true hk, Bool.true_and]
  cases decide (k = j) <;> rfl
theorem butL_eq {n j : Nat} (hj : j < n) : butL n j = List.range j ++ (List.range (n - 1 - j)).map fun k => j + 1 + k := by
  obtain ⟨m, rfl⟩ : ∃ m, n = j + 1 + m := ⟨n - (j + 1), by omega⟩
  have e : j + 1 + m - 1 - j = m := by omega
  rw [e]
  unfold butL
  rw [List.range_add, List.range_succ, List.filter_append, List.filter_append]
  have h1 : (List.range j).filter (fun k => !decide (k = j)) = List.range j := List.filter_eq_self.2 fun k hk => by have := List.mem_range.1 hk; simp; omega
  have h2 : [j].filter (fun k => !decide (k = j)) = [] := by simp
  have h3 : ((List.range m).map fun k => j + 1 + k).filter (fun k => !decide (k = j)) = (List.range m).map fun k => j + 1 + k := List.filter_eq_self.2 fun k hk => by
    obtain ⟨q, _, rfl⟩ := List.mem_map.1 hk; simp; omega
  rw [h1, h2, h3, List.append_nil]
theorem butL_length {n j : Nat} (hj : j < n) : (butL n j).length = n - 1 := by rw [butL_eq hj]; simp; omega
theorem butL_get {n j a : Nat} (hj : j < n) (ha : a < n - 1) : (butL n j).getD a 0 = Mx.sk j a := by
  rw [butL_eq hj, List.getD_eq_getElem?_getD]
  unfold Mx.sk
  by_cases h : a < j
  · rw [if_pos h, List.getElem?_append_left (by simpa using h), List.getElem?_range h]; rfl
  · rw [if_neg h, List.getElem?_append_right (by simp; omega), List.length_range, List.getElem?_map, List.getElem?_range (by omega)]
    show j + 1 + (a - j) = a + 1; omega
/-- The minor that is left. -/
def lessM (A : Nat → Nat → Int) (j i a b : Nat) : Int := A (Mx.sk j a) (Mx.sk i b)
theorem minor_list {n i j : Nat} (A : Nat → Nat → Int) (hi : i < n) (hj : j < n) : mList A (butL n j) (butL n i) = sqList (n - 1) (lessM A j i) := by
  rw [mList_sq (butL_length hj) (butL_length hi)]
  refine sqList_congr fun a b ha hb => ?_
  unfold pickM lessM
  rw [butL_get hj ha, butL_get hi hb]
theorem adj_odd {n i j : Nat} (A : Nat → Nat → Int) (h : (i + j) % 2 = 1) : wrap64 (-(wrap64 (Mx.det (n - 1) (lessM A j i)))) = wrap64 (Mx.adj n A i j) := by
  rw [wrap_neg]
  unfold Mx.adj Mx.sg lessM
  rw [if_neg (by omega), Int.neg_mul, Int.one_mul]
theorem adj_even {n i j : Nat} (A : Nat → Nat → Int) (h : (i + j) % 2 = 0) : wrap64 (Mx.det (n - 1) (lessM A j i)) = wrap64 (Mx.adj n A i j) := by
  unfold Mx.adj Mx.sg lessM
  rw [if_pos h, Int.one_mul]

theorem small_sum {i j : Nat} (h : i + j ≤ 100) : wrap64 ((i : Int) + (j : Int)) = (i : Int) + (j : Int) := wrap_id (by unfold I64; omega)
theorem sum_odd (i j : Nat) : (((i : Int) + (j : Int)).tmod 2 == 1) = decide ((i + j) % 2 = 1) := by
  rw [Int.tmod_eq_emod_of_nonneg (by omega), Bool.eq_iff_iff, beq_iff_eq, decide_eq_true_eq]; omega

set_option maxRecDepth 20000 in
set_option maxHeartbeats 16000000 in
theorem refAdj_any (n : Nat) (A : Nat → Nat → Int) (b : Option Addr) (z : Nat) (w : World) (hn : n ≤ 6) (hrow : Row w b (sqList n A)) :
    Calls Tryd.prog 29 #[.int .i64 (n : Int), .slice b (n * n) z] w (OwnPost (sqList n (Mx.adj n A)) w) := by
  have hnn : n * n ≤ 6 * 6 := Nat.mul_le_mul hn hn
  have hmin := fun ur kr uc kc R C w h1 h2 h3 h4 h5 => refMinor_any n A b z ur kr uc kc R C w hn h1 h2 h3 h4 h5
  have hdet := fun B b z w h => refDet_any (n - 1) B b z w (by omega) h
  obtain ⟨N, hNN⟩ : ∃ N, N = n * n := ⟨_, rfl⟩
  rw [← hNN] at hmin ⊢
  have N1 : N ≤ 36 := by rw [hNN]; exact hnn
  have hmk := fun W => run_make_bools n (by omega) W
  have hT : (sqList n (Mx.adj n A)).length = N := by rw [sqList_length, hNN]
  have hG : ∀ i j, i < n → j < n → (sqList n (Mx.adj n A)).getD (i * n + j) 0 = wrap64 (Mx.adj n A i j) := fun i j hi hj => sqList_get _ hi hj
  generalize sqList n (Mx.adj n A) = T at *
  clear hnn
  replace hNN := Lib.hid hNN
  replace hmin := Lib.hid hmin
  replace hdet := Lib.hid hdet
  replace hT := Lib.hid hT
  replace hG := Lib.hid hG
  replace hrow := Lib.hid hrow
  go_enter Tryd.func29, Tryd.ntmps29
  go_wp2
  go_loopw [5, 6] (fun v5 v6 wr => ∃ i : Nat, i ≤ n ∧ v6 = .int .i64 i ∧ Own wr w.heap.size v5 (T.take (i * n)) ∧ Below w.heap.size w wr) (fun _ v _ => n - (intOf v).toNat)
  case atStart => exact ⟨0, Nat.zero_le _, rfl, by rw [Nat.zero_mul]; exact Own.nil _ _, Below.refl _ _⟩
  case round =>
    obtain ⟨i, hi, rfl, hown, hbel⟩ := hrel
    have hv := hown.view
    obtain ⟨av, cv, rfl, -, -, -⟩ := hv
    replace hown := Lib.hid hown
    by_cases hli : i < n
    · go_wp2
      rename World => w1
      go_loopw [5, 7] (fun v5 v7 wr => ∃ j : Nat, j ≤ n ∧ v7 = .int .i64 j ∧ Own wr w.heap.size v5 (T.take (i * n + j)) ∧ Below w.heap.size w wr) (fun _ v _ => n - (intOf v).toNat)
      case atStart => exact ⟨0, Nat.zero_le _, rfl, hown.out, hbel⟩
      case round =>
        clear hown hbel
        obtain ⟨j, hj, rfl, hown, hbel⟩ := hrel
        have hle : i * n + j ≤ N := by
          rw [hNN.out]
          have h1 : (i + 1) * n ≤ n * n := Nat.mul_le_mul_right n hli
          rw [Nat.add_mul, Nat.one_mul] at h1; omega
        have hlen : (T.take (i * n + j)).length = i * n + j := by rw [List.length_take, hT.out]; omega
        have hv := hown.view
        rw [hlen] at hv
        obtain ⟨av, cv, rfl, -, -, -⟩ := hv
        replace hlen := Lib.hid hlen
        by_cases hlj : j < n
        · have h1 : ((wr.alloc (.cells (boolCells (List.replicate n false)) 4)).alloc (.cells (boolCells (List.replicate n false)) 4)).heap[wr.heap.size]? = some (.cells (boolCells (nbL n j 0)) 4 (0, 0)) := by
            rw [nbL_zero]; exact (heap_alloc_old _ _ (by simp)).trans (heap_alloc_new _ _)
          have h2 : ((wr.alloc (.cells (boolCells (List.replicate n false)) 4)).alloc (.cells (boolCells (List.replicate n false)) 4)).heap[wr.heap.size + 1]? = some (.cells (boolCells (nbL n i 0)) 4 (0, 0)) := by
            rw [nbL_zero]; have := heap_alloc_new (wr.alloc (.cells (boolCells (List.replicate n false)) 4)) (.cells (boolCells (List.replicate n false)) 4); simpa using this
          have hb0 := push (push (start wr) (.cells (boolCells (List.replicate n false)) 4)) (.cells (boolCells (List.replicate n false)) 4)
          have hown1 := hown
          replace hown := Lib.hid hown
          replace hown1 := Lib.hid hown1
          go_wp2
          obtain ⟨w2, hw2⟩ : ∃ w2, w2 = wr := ⟨_, rfl⟩
          subst hw2
          generalize hwa : (w2.alloc (.cells (boolCells (List.replicate n false)) 4)).alloc (.cells (boolCells (List.replicate n false)) 4) = wa at *
          replace hwa := Lib.hid hwa
          go_loopw [10] (fun v10 wr => ∃ k : Nat, k ≤ n ∧ v10 = .int .i64 k ∧ wr.heap[w2.heap.size]? = some (.cells (boolCells (nbL n j k)) 4 (0, 0)) ∧ wr.heap[w2.heap.size + 1]? = some (.cells (boolCells (nbL n i k)) 4 (0, 0)) ∧ Below w2.heap.size w2 wr) (fun v _ => n - (intOf v).toNat)
          case atStart => exact ⟨0, Nat.zero_le _, rfl, h1, h2, hb0⟩
          case round =>
            clear h1 h2 hb0
            obtain ⟨k, hk, rfl, h1, h2, hb0⟩ := hrel
            by_cases hlk : k < n
            · have c1 := bool_cell h1 (k := k) (by rw [nbL_length]; exact hlk)
              have c2 := bool_cell h2 (k := k) (by rw [nbL_length]; exact hlk)
              have f1 := frozen_of_row wr w2.heap.size k _ 4 h1
              have f2 := frozen_of_row wr (w2.heap.size + 1) k _ 4 h2
              have s1 := bool_set h1 k (!decide (k = j))
              have s2 := (heap_setCell_other wr ⟨w2.heap.size, k, none⟩ (w2.heap.size + 1) (.bool (!decide (k = j))) (by show w2.heap.size + 1 ≠ w2.heap.size; omega)).trans h2
              have s3 := bool_set s2 k (!decide (k = i))
              have s4 := (heap_setCell_other (wr.setCell ⟨w2.heap.size, k, none⟩ (.bool (!decide (k = j)))) ⟨w2.heap.size + 1, k, none⟩ w2.heap.size (.bool (!decide (k = i))) (by show w2.heap.size ≠ w2.heap.size + 1; omega)).trans s1
              rw [nbL_set] at s3 s4
              have hb2 := (hb0.setCell (p := ⟨w2.heap.size, k, none⟩) (Nat.le_refl _) (.bool (!decide (k = j)))).setCell (p := ⟨w2.heap.size + 1, k, none⟩) (by show w2.heap.size ≤ w2.heap.size + 1; omega) (.bool (!decide (k = i)))
              have t1 : ((k : Int) == (j : Int)) = decide (k = j) := by rw [Bool.eq_iff_iff, beq_iff_eq, decide_eq_true_eq]; omega
              have t2 : ((k : Int) == (i : Int)) = decide (k = i) := by rw [Bool.eq_iff_iff, beq_iff_eq, decide_eq_true_eq]; omega
              have t3 : ((k : Int) != (j : Int)) = !decide (k = j) := by rw [← t1]; rfl
              have t4 : ((k : Int) != (i : Int)) = !decide (k = i) := by rw [← t2]; rfl
              have c3 : ∀ v, (wr.setCell ⟨w2.heap.size, k, none⟩ v).cell? ⟨w2.heap.size + 1, k, none⟩ = some (.bool ((nbL n i k).getD k false)) := fun v => by
                rw [World.cell?_setCell_other _ _ _ _ (by intro h; have := congrArg Addr.block h; simp at this)]; exact c2
              have f3 : ∀ v, (wr.setCell ⟨w2.heap.size, k, none⟩ v).frozen? ⟨w2.heap.size + 1, k, none⟩ = false := fun v => by
                rw [World.frozen?_of_block (Below.heap_setCell wr ⟨w2.heap.size, k, none⟩ v (w2.heap.size + 1) (by show w2.heap.size + 1 ≠ w2.heap.size; omega))]; exact f2
              generalize decide (k = j) = b1 at *
              generalize decide (k = i) = b2 at *
              replace s1 := Lib.hid s1
              replace s2 := Lib.hid s2
              replace s3 := Lib.hid s3
              replace s4 := Lib.hid s4
              replace h1 := Lib.hid h1
              replace h2 := Lib.hid h2
              go_wp2
              go_roundw
              case rel => exact ⟨k + 1, hlk, num1 k, s4.out, s3.out, hb2⟩
              case measure => exact meas1 hlk
            · obtain rfl : n = k := by omega
              have hs2 := hbel.size
              have hus := hb0.size
              have hbw : Below w.heap.size w wr := hbel.trans (hb0.mono (hs2))
              have hownr : Own wr w.heap.size (.slice av (i * n + j) cv) (T.take (i * n + j)) := hown.out.below hb0
              have hcall := hmin.out w2.heap.size n (w2.heap.size + 1) n _ _ wr (hrow.out.below hbw) h1 h2 (nbL_length _ _ _) (nbL_length _ _ _)
              rw [nbL_places, nbL_places] at hcall
              have hml := minor_list A hli hlj
              have hmn := butL_length hlj
              replace hcall := Lib.hid hcall
              replace hownr := Lib.hid hownr
              clear h1 h2 hown hown1 hus
              go_wp2_with fail
              refine hcall.out.mono ?_
              rintro e w4 ⟨am, cm, rfl, hrm, hbm⟩
              rw [hml, hmn]
              rw [hml] at hrm
              rw [sqList_length]
              have hcd := hdet.out (lessM A j i) am cm w4 hrm
              have hbel4 := below_trans hbw hbm
              have hown4 : Own w4 w.heap.size (.slice av (i * n + j) cv) (T.take (i * n + j)) := hownr.out.below hbm
              replace hcd := Lib.hid hcd
              replace hown4 := Lib.hid hown4
              replace hml := Lib.hid hml
              replace hmn := Lib.hid hmn
              clear hrm hownr hbw hbm hcall
              go_wp2_with fail
              refine hcd.out.mono ?_
              rintro e w5 ⟨rfl, hb5⟩
              have hbel5 := below_trans hbel4 hb5
              have hown5 : Own w5 w.heap.size (.slice av (i * n + j) cv) (T.take (i * n + j)) := hown4.out.below hb5
              clear hown4 hbel4 hb5 hcd
              have hget := hG.out i j hli hlj
              have q1 := sq_index_lt hli hlj
              rw [← hNN.out] at q1
              have hnx : ∀ v, v = wrap64 (Mx.adj n A i j) → T.take (i * n + j) ++ [v] = T.take (i * n + (j + 1)) := fun v hv => by
                rw [hv, ← hget, ← Nat.add_assoc]; exact (take_snoc (by rw [hT.out]; exact q1)).symm
              have hlt : (T.take (i * n + j)).length < 17592186044416 := by rw [hlen.out]; omega
              have hlk := Lib.hid (show i * n + j + 1 = (T.take (i * n + j)).length + 1 by rw [hlen.out])
              have wij := small_sum (i := i) (j := j) (by clear hnx hget; omega)
              have eij := sum_odd i j
              replace hnx := Lib.hid hnx
              replace hget := Lib.hid hget
              replace hown5 := Lib.hid hown5
              rcases Nat.mod_two_eq_zero_or_one (i + j) with hp | hp
              · have hv := Lib.hid (hnx.out _ (adj_even (n := n) A hp))
                rw [decide_eq_false (by omega)] at eij
                generalize wrap64 (Mx.det (n - 1) (lessM A j i)) = v at *
                generalize i * n + j = u' at *
                go_wp2_with (refine app_int2 rfl (.tmp 63) (.tmp 65) rfl w.heap.size _ (T.take u') v rfl hown5.out rfl hlt hbel5.size (u' + 1) hlk.out ?_; intro a' c' w' ho' hb' hs')
                go_roundw
                case rel => exact ⟨j + 1, hlj, num1 j, by rw [← hv.out]; exact ho', hbel5.trans hb'⟩
                case measure => exact meas1 hlj
              · have hv := Lib.hid (hnx.out _ (adj_odd (n := n) A hp))
                rw [decide_eq_true hp] at eij
                generalize wrap64 (Mx.det (n - 1) (lessM A j i)) = v at *
                generalize i * n + j = u' at *
                go_wp2_with (refine app_int2 rfl (.tmp 63) (.tmp 65) rfl w.heap.size _ (T.take u') (wrap64 (-v)) rfl hown5.out rfl hlt hbel5.size (u' + 1) hlk.out ?_; intro a' c' w' ho' hb' hs')
                go_roundw
                case rel => exact ⟨j + 1, hlj, num1 j, by rw [← hv.out]; exact ho', hbel5.trans hb'⟩
                case measure => exact meas1 hlj
        · obtain rfl : n = j := by omega
          replace hown := Lib.hid hown
          go_wp2
          go_roundw
          case rel => exact ⟨i + 1, hli, num1 i, by rw [Nat.add_mul, Nat.one_mul]; exact hown.out, hbel⟩
          case measure => exact meas1 hli
    · obtain rfl : n = i := by omega
      have h0 : T.take (n * n) = T := List.take_of_length_le (by rw [hT.out, hNN.out]; exact Nat.le_refl _)
      go_wp2
      go_ret
      exact ⟨_, rfl, by have := hown.out; rw [h0] at this; rw [h0]; exact this, hbel⟩
end Go.Proofs.YtcenhemlgapkeaaDoor
