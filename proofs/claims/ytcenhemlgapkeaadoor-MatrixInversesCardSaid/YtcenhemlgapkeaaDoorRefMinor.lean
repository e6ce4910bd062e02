/- The document's Minor: the rows and columns of which it is so. Condition: at most six rows, in a row of ints; the choices in blocks of booleans. -/
import Derived.Test.YtcenhemlgapkeaaDoorRefDet
import Derived.Test.YtcenhemlgapkeaaDoorBdA
namespace Go.Proofs.YtcenhemlgapkeaaDoor
open Go.RowKit

/-- What Minor leaves. -/
def MinorPost (A : Nat → Nat → Int) (R C : List Nat) (w : World) (e : Ending) (w' : World) : Prop :=
  ∃ a c, e = .returned (.tuple #[.int .i64 (R.length : Nat), .slice a (mList A R C).length c]) ∧ Row w' a (mList A R C) ∧ Below w.heap.size w w'

set_option maxRecDepth 20000 in
set_option maxHeartbeats 16000000 in
theorem refMinor_any (n : Nat) (A : Nat → Nat → Int) (b : Option Addr) (z ur kr uc kc : Nat) (R C : List Bool) (w : World) (hn : n ≤ 6) (hrow : Row w b (sqList n A)) (hR : w.heap[ur]? = some (.cells (boolCells R) 4 (0, 0))) (hC : w.heap[uc]? = some (.cells (boolCells C) 4 (0, 0))) (lR : R.length = n) (lC : C.length = n) :
    Calls Tryd.prog 52 #[.int .i64 (n : Int), .slice b (n * n) z, .slice (some ⟨ur, 0, none⟩) n kr, .slice (some ⟨uc, 0, none⟩) n kc] w (MinorPost A (placesTo R true n) (placesTo C true n) w) := by
  have hnn : n * n ≤ 6 * 6 := Nat.mul_le_mul hn hn
  obtain ⟨N, hNN⟩ : ∃ N, N = n * n := ⟨_, rfl⟩
  rw [← hNN]
  have N1 : N ≤ 36 := by rw [hNN]; exact hnn
  clear hnn
  have hr := fun wr (hb : Below w.heap.size w wr) j (hj : j < n) => bool_cell ((hb.block ur (lt_of_some hR)).trans hR) (k := j) (by omega)
  have hc := fun wr (hb : Below w.heap.size w wr) j (hj : j < n) => bool_cell ((hb.block uc (lt_of_some hC)).trans hC) (k := j) (by omega)
  have hA : ∀ wr, Below w.heap.size w wr → ∀ i k, i < n → k < n → ∃ g o, b = some ⟨g, o, none⟩ ∧ wr.cell? ⟨g, o + (i * n + k), none⟩ = some (.int .i64 (wrap64 (A i k))) := fun wr hb i k hi hk => by
    obtain ⟨g, o, h1, h2⟩ := hrow.below hb (i * n + k) (by rw [sqList_length]; exact sq_index_lt hi hk)
    rw [sqList_get A hi hk] at h2; exact ⟨g, o, h1, h2⟩
  have hl : ∀ i j, i < n → j < n → (mList A (placesTo R true i) (placesTo C true n) ++ mRow A i (placesTo C true j)).length ≤ 72 := fun i j hi hj => by
    have h1 := placesTo_le R true i
    have h2 := placesTo_le C true n
    have h3 := placesTo_le C true j
    have h4 : (placesTo R true i).length * (placesTo C true n).length ≤ 6 * 6 := Nat.mul_le_mul (by omega) (by omega)
    rw [List.length_append, mList_length]
    simp only [mRow, List.length_map]
    omega
  clear hrow hR hC
  replace hNN := Lib.hid hNN
  replace hr := Lib.hid hr
  replace hc := Lib.hid hc
  replace hA := Lib.hid hA
  replace hl := Lib.hid hl
  replace lR := Lib.hid lR
  replace lC := Lib.hid lC
  go_enter Tryd.func52, Tryd.ntmps52
  go_wp2
  go_loopw [10, 11, 12] (fun v10 v11 v12 wr => ∃ i : Nat, i ≤ n ∧ v12 = .int .i64 i ∧ v10 = .int .i64 ((placesTo R true i).length : Nat) ∧ Own wr w.heap.size v11 (mList A (placesTo R true i) (placesTo C true n)) ∧ Below w.heap.size w wr) (fun _ _ v _ => n - (intOf v).toNat)
  case atStart => exact ⟨0, Nat.zero_le _, rfl, rfl, Own.nil _ _, Below.refl _ _⟩
  case round =>
    obtain ⟨i, hi, rfl, rfl, hown, hbel⟩ := hrel
    have hv := hown.view
    obtain ⟨av, cv, rfl, -, -, -⟩ := hv
    by_cases hli : i < n
    · have c1 := hr.out wr hbel i hli
      have hle := placesTo_le R true i
      cases hb : R.getD i false with
      | false =>
        rw [hb] at c1
        have e1 := Lib.hid (show placesTo R true (i + 1) = placesTo R true i from placesTo_miss (v := true) hb)
        replace hown := Lib.hid hown
        replace hb := Lib.hid hb
        go_wp2
        go_roundw
        case rel => exact ⟨i + 1, hli, num1 i, by rw [e1.out], by rw [e1.out]; exact hown.out, hbel⟩
        case measure => exact meas1 hli
      | true =>
        rw [hb] at c1
        have e1 := Lib.hid (show placesTo R true (i + 1) = placesTo R true i ++ [i] from placesTo_hit (v := true) hb)
        have e2 := Lib.hid (show (placesTo R true (i + 1)).length = (placesTo R true i).length + 1 by rw [e1.out, List.length_append]; rfl)
        replace hb := Lib.hid hb
        have hown0 : Own wr w.heap.size (.slice av (mList A (placesTo R true i) (placesTo C true n)).length cv) (mList A (placesTo R true i) (placesTo C true n) ++ mRow A i (placesTo C true 0)) := by
          rw [placesTo_zero, show mRow A i [] = [] from rfl, List.append_nil]; exact hown
        replace hown0 := Lib.hid hown0
        clear hown
        generalize (placesTo R true i).length = q at *
        go_wp2
        rename World => w1
        go_loopw [11, 13] (fun v11 v13 wr => ∃ j : Nat, j ≤ n ∧ v13 = .int .i64 j ∧ Own wr w.heap.size v11 (mList A (placesTo R true i) (placesTo C true n) ++ mRow A i (placesTo C true j)) ∧ Below w.heap.size w wr) (fun _ v _ => n - (intOf v).toNat)
        case atStart => exact ⟨0, Nat.zero_le _, rfl, hown0.out, hbel⟩
        case round =>
          clear hown0 hbel c1
          obtain ⟨j, hj, rfl, hown, hbel⟩ := hrel
          have hv := hown.view
          obtain ⟨av, cv, rfl, -, -, -⟩ := hv
          by_cases hlj : j < n
          · have c1 := hc.out wr hbel j hlj
            cases hb : C.getD j false with
            | false =>
              rw [hb] at c1
              have e3 := Lib.hid (show placesTo C true (j + 1) = placesTo C true j from placesTo_miss (v := true) hb)
              replace hown := Lib.hid hown
              replace hb := Lib.hid hb
              go_wp2
              go_roundw
              case rel => exact ⟨j + 1, hlj, num1 j, by rw [e3.out]; exact hown.out, hbel⟩
              case measure => exact meas1 hlj
            | true =>
              rw [hb] at c1
              have e3 := Lib.hid (show mList A (placesTo R true i) (placesTo C true n) ++ mRow A i (placesTo C true (j + 1)) = (mList A (placesTo R true i) (placesTo C true n) ++ mRow A i (placesTo C true j)) ++ [wrap64 (A i j)] by rw [placesTo_hit (v := true) hb, mRow_snoc, List.append_assoc])
              have hl1 := hl.out i j hli hlj
              obtain ⟨ga, oa, rfl, ca⟩ := hA.out wr hbel i j hli hlj
              have q1 := sq_index_lt hli hlj
              rw [← hNN.out] at q1
              have e5 : ((i : Int) * (n : Int)) = ((i * n : Nat) : Int) := by simp
              replace hb := Lib.hid hb
              generalize (mList A (placesTo R true i) (placesTo C true n) ++ mRow A i (placesTo C true j)) = L at *
              have hlen : L.length < 17592186044416 := by clear e5; omega
              generalize A i j = x at *
              obtain ⟨p, hp⟩ : ∃ p, p = i * n := ⟨_, rfl⟩
              rw [← hp] at q1 e5 ca
              have p1 : p ≤ 36 := by clear e5; omega
              have i1 : (p : Int) + (j : Int) < (N : Int) := by clear e5; omega
              have pw : -9223372036854775808 ≤ (p : Int) ∧ (p : Int) ≤ 9223372036854775807 := by clear e5; omega
              have w1' : ∀ m : Nat, m = n → wrap64 ((i : Int) * (m : Int)) = (p : Int) := by rintro m rfl; rw [e5]; exact IntWalk.wrap64_in _ pw
              clear e5 pw
              replace hp := Lib.hid hp
              obtain ⟨k, hk⟩ : ∃ k, k = L.length := ⟨_, rfl⟩
              rw [← hk] at hown ⊢
              replace hown := Lib.hid hown
              replace hk := Lib.hid hk
              have hk1 := Lib.hid (show k + 1 = L.length + 1 by rw [hk.out])
              go_wp2_with (refine app_int2 rfl (.tmp 35) (.tmp 44) rfl w.heap.size _ L (wrap64 x) rfl hown.out rfl hlen hbel.size (k + 1) hk1.out ?_; intro a' c' w' ho' hb' hs')
              go_roundw
              case rel => exact ⟨j + 1, hlj, num1 j, by rw [e3.out]; exact ho', hbel.trans hb'⟩
              case measure => exact meas1 hlj
          · obtain rfl : n = j := by omega
            have e4 := Lib.hid (show mList A (placesTo R true (i + 1)) (placesTo C true n) = mList A (placesTo R true i) (placesTo C true n) ++ mRow A i (placesTo C true n) by rw [e1.out, mList_snoc])
            replace hown := Lib.hid hown
            go_wp2
            go_roundw
            case rel => exact ⟨i + 1, hli, num1 i, by rw [e2.out]; rfl, by rw [e4.out]; exact hown.out, hbel⟩
            case measure => exact meas1 hli
    · obtain rfl : n = i := by omega
      have hv := hown.view
      obtain ⟨av2, cv2, he, -, -, hrow⟩ := hv
      cases he
      clear hown
      go_wp2
      go_ret2
      exact ⟨_, _, rfl, hrow, hbel⟩
end Go.Proofs.YtcenhemlgapkeaaDoor
