/- The document's Inverse: the adjugate, times the inverse of the determinant. Condition: at most six rows, in a row of ints; the determinant is odd. -/
import Derived.Test.YtcenhemlgapkeaaDoorRefAdj
import Derived.Test.YtcenhemlgapkeaaDoorRefOdd
import Derived.Test.YtcenhemlgapkeaaDoorRefMat
import Derived.Test.YtcenhemlgapkeaaDoorOwnAt
import Derived.Test.YtcenhemlgapkeaaDoorInvPlain
namespace Go.Proofs.YtcenhemlgapkeaaDoor
open Go.RowKit

/-- The first k times c. -/
def mulL (T : List Int) (c : Int) (k : Nat) : List Int := (List.range T.length).map fun p => if p < k then wrap64 (T.getD p 0 * c) else T.getD p 0
theorem mulL_length (T : List Int) (c : Int) (k : Nat) : (mulL T c k).length = T.length := by simp [mulL]
theorem mulL_zero (T : List Int) (c : Int) : mulL T c 0 = T := by
  apply List.ext_getElem
  · simp [mulL]
  · intro p h1 h2
    simp [mulL, h2]
theorem mulL_get {T : List Int} {k : Nat} (c : Int) (hk : k < T.length) : (mulL T c k).getD k 0 = T.getD k 0 := by
  rw [List.getD_eq_getElem?_getD]
  simp only [mulL, List.getElem?_map, List.getElem?_range hk, Option.map_some, Option.getD_some]
  rw [if_neg (by omega)]
theorem mulL_step {T : List Int} {k : Nat} (c : Int) (_ : k < T.length) : (mulL T c k).set k (wrap64 (T.getD k 0 * c)) = mulL T c (k + 1) := by
  apply List.ext_getElem
  · simp [mulL]
  · intro p h1 h2
    rw [List.getElem_set]
    simp only [mulL, List.getElem_map, List.getElem_range]
    by_cases e : k = p
    · subst e; rw [if_pos rfl, if_pos (by omega)]
    · rw [if_neg e]
      have : (p < k) = (p < k + 1) := propext (by omega)
      simp only [this]
theorem mulL_end (n : Nat) (A : Nat → Nat → Int) (c : Int) : mulL (sqList n A) c (n * n) = sqList n (fun i j => A i j * c) := by
  unfold mulL
  rw [sqList_length]
  unfold sqList
  refine List.map_congr_left fun p hp => ?_
  have hp := List.mem_range.1 hp
  rw [if_pos hp, List.getD_eq_getElem?_getD, List.getElem?_map, List.getElem?_range hp]
  exact wrap_mul_l _ _

set_option maxRecDepth 20000 in
set_option maxHeartbeats 16000000 in
theorem refInv_any (n : Nat) (A : Nat → Nat → Int) (b : Option Addr) (z : Nat) (w : World) (hn : n ≤ 6) (hrow : Row w b (sqList n A)) (ho : wrap64 (Mx.det n A) % 2 = 1) :
    Calls Tryd.prog 31 #[.int .i64 (n : Int), .slice b (n * n) z] w (SqOut n (invM n A) w) := by
  have hnn : n * n ≤ 6 * 6 := Nat.mul_le_mul hn hn
  have hadj := refAdj_any n A b z w hn hrow
  have hdet := fun w h => refDet_any n A b z w hn h
  have hodd := fun w => refOdd_any (wrap64 (Mx.det n A)) w (I64_wrap _) ho
  have hend := mulL_end n (Mx.adj n A) (newts (wrap64 (Mx.det n A)) 6)
  have hc64 := newts_i64 (I64_wrap (Mx.det n A)) 6
  have hfin : sqList n (fun i j => Mx.adj n A i j * newts (wrap64 (Mx.det n A)) 6) = sqList n (invM n A) := rfl
  rw [hfin] at hend
  clear hfin
  have hTl := sqList_length n (Mx.adj n A)
  have hT64 := sqList_i64 n (Mx.adj n A)
  unfold SqOut
  generalize sqList n (Mx.adj n A) = T at *
  generalize wrap64 (Mx.det n A) = dd at *
  generalize newts dd 6 = c at *
  generalize sqList n (invM n A) = U at *
  obtain ⟨N, hN⟩ : ∃ N, N = n * n := ⟨_, rfl⟩
  rw [← hN] at hadj hdet hTl hend hnn ⊢
  have N1 : N ≤ 36 := hnn
  clear hnn ho
  replace hadj := Lib.hid hadj
  replace hdet := Lib.hid hdet
  replace hodd := Lib.hid hodd
  replace hrow := Lib.hid hrow
  replace hN := Lib.hid hN
  replace hTl := Lib.hid hTl
  replace hend := Lib.hid hend
  replace hT64 := Lib.hid hT64
  replace hc64 := Lib.hid hc64
  go_enter Tryd.func31, Tryd.ntmps31
  go_wp2_with fail
  refine hadj.out.mono ?_
  rintro e w1 ⟨v, rfl, hown, hb⟩
  have hv := hown.view
  rw [hTl.out] at hv
  obtain ⟨av, cv, rfl, -, -, -⟩ := hv
  have hrow1 := hrow.out.below hb
  replace hown := Lib.hid hown
  clear hrow
  go_wp2_with fail
  refine (hdet.out _ hrow1).mono ?_
  rintro e w2 ⟨rfl, hb2⟩
  have hown2 : Own w2 w.heap.size (.slice av N cv) T := hown.out.below hb2
  have hbel2 := below_trans hb hb2
  clear hown hrow1 hb hb2
  replace hown2 := Lib.hid hown2
  go_wp2_with fail
  refine (hodd.out _).mono ?_
  rintro e w3 ⟨rfl, rfl⟩
  go_wp2
  go_loopw [7] (fun v7 wr => ∃ k : Nat, k ≤ N ∧ v7 = .int .i64 k ∧ Own wr w.heap.size (.slice av N cv) (mulL T c k) ∧ Below w.heap.size w wr) (fun v _ => N - (intOf v).toNat)
  case atStart => exact ⟨0, Nat.zero_le _, rfl, by rw [mulL_zero]; exact hown2.out, hbel2⟩
  case round =>
    clear hown2 hbel2
    obtain ⟨k, hk, rfl, hown, hbel⟩ := hrel
    by_cases hlk : k < N
    · have hlT : k < T.length := by rw [hTl.out]; exact hlk
      have hlm : k < (mulL T c k).length := by rw [mulL_length]; exact hlT
      obtain ⟨g, cap, hv, hBg, hgs⟩ := own_slice hown (Nat.lt_of_le_of_lt (Nat.zero_le _) hlm)
      have hav : av = some ⟨g, 0, none⟩ := by injection hv
      clear hv
      subst hav
      have ck := own_cell hown hlm
      rw [mulL_get c hlT] at ck
      have fk := own_frozen hown k
      have hst := own_store hown hlm (wrap64 (T.getD k 0 * c))
      rw [mulL_step c hlT] at hst
      have hbs := hbel.setCell (p := ⟨g, k, none⟩) hBg (.int .i64 (wrap64 (T.getD k 0 * c)))
      generalize T.getD k 0 = x at *
      replace hst := Lib.hid hst
      replace hown := Lib.hid hown
      go_wp2
      go_roundw
      case rel => exact ⟨k + 1, hlk, num1 k, hst.out, hbs⟩
      case measure => exact meas1 hlk
    · obtain rfl : N = k := by omega
      rw [hend.out] at hown
      have hv := hown.view
      obtain ⟨a2, c2, he, -, -, hr⟩ := hv
      have hav : av = a2 := by injection he
      clear he
      subst hav
      replace hown := Lib.hid hown
      go_wp2
      go_ret
      exact ⟨_, _, rfl, hr, hbel⟩
end Go.Proofs.YtcenhemlgapkeaaDoor
