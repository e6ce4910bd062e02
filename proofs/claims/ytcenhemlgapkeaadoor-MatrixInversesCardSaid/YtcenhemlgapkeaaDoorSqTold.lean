/- The call square.told: a square as an array. Condition: at most six rows. -/
import Derived.Test.YtcenhemlgapkeaaDoorBdQ
import Derived.Test.YtcenhemlgapkeaaDoorBdA
import Derived.Test.YtcenhemlgapkeaaDoorOutAt
import Derived.Test.YtcenhemlgapkeaaDoorBdS
import Derived.RegionTactic
import Derived.BigRegion
import Derived.Test.YtcenhemlgapkeaaDoorSqAlloc
namespace Go.Proofs.YtcenhemlgapkeaaDoor
open Go.RowKit

theorem sq_row {W : World} {b n m : Nat} {A : Nat → Nat → Int} {e : TypeId} (h : W.heap[b]? = some (.cells (sqCells m A) e (0, 0))) {i : Nat} (hi : i < 6) (hn : n ≤ 6) : Row W (some ⟨b, 1 + i * 6, none⟩) (sqRow n A i) := by
  intro j hj
  rw [sqRow_length] at hj
  refine ⟨_, _, rfl, ?_⟩
  rw [sq_cell h hi (by omega)]
  simp [sqRow, hj]

set_option maxHeartbeats 4000000 in
theorem sqTold_any (n : Nat) (A : Nat → Nat → Int) (w : World) (hn : n ≤ 6) :
    Calls Tryd.prog 50 #[.agg (sqCells n A)] w fun e w' => VecPostF ⟨false, [(n : Int), (n : Int)], sqList n A⟩ w e w' := by
  have E := ((Env.start w).alloc (.cells (sqCells n A) 73)).box false none 0 0 none 0 0
  rw [World.size_alloc] at E
  have X0 := heap_alloc2_old w (.cells (sqCells n A) 73) (.cells #[.bool false, .slice none 0 0, .slice none 0 0] 24)
  have c0 := sq_cell0 X0
  have Z0 := E.getBox 0 rfl
  have E4 := (E.alloc (.cells #[.int .i64 (n : Int), .int .i64 (n : Int)] 3)).box false (some ⟨w.heap.size + 1 + 1, 0, none⟩) 2 2 none 0 0
  simp only [World.size_alloc] at E4
  obtain ⟨wB, hwB⟩ : ∃ wB : World, wB = (((w.alloc (.cells (sqCells n A) 73)).alloc (.cells #[.bool false, .slice none 0 0, .slice none 0 0] 24)).alloc (.cells #[.int .i64 (n : Int), .int .i64 (n : Int)] 3)).alloc (.cells #[.bool false, .slice (some ⟨w.heap.size + 1 + 1, 0, none⟩) 2 2, .slice none 0 0] 24) := ⟨_, rfl⟩
  rw [← hwB] at E4
  have SB : wB.heap.size = w.heap.size + 1 + 1 + 1 + 1 := by rw [hwB]; simp
  have QB : wB.heap[w.heap.size]? = some (.cells (sqCells n A) 73 (0, 0)) := by
    rw [hwB, heap_alloc_old _ _ (by simp; omega), heap_alloc_old _ _ (by simp; omega)]; exact X0
  have RB : wB.heap[w.heap.size + 1 + 1]? = some (.cells #[.int .i64 (n : Int), .int .i64 (n : Int)] 3 (0, 0)) := by
    rw [hwB, heap_alloc_old _ _ (by simp)]
    have := heap_alloc_new ((w.alloc (.cells (sqCells n A) 73)).alloc (.cells #[.bool false, .slice none 0 0, .slice none 0 0] 24)) (.cells #[.int .i64 (n : Int), .int .i64 (n : Int)] 3)
    rw [World.size_alloc, World.size_alloc] at this
    exact this
  have ZB := E4.getBox 1 rfl
  have OB : OutAt w wB (w.heap.size + 1 + 1 + 1) (w.heap.size + 1 + 1 + 1 + 1) false (.slice (some ⟨w.heap.size + 1 + 1, 0, none⟩) 2 2) (.slice none 0 0) [] wB := by
    obtain ⟨⟨x0, x1, x2⟩, y0, y1, y2⟩ := E4.getBox 0 rfl
    exact ⟨⟨⟨x0, x1, x2⟩, y2⟩, Own.nil _ _, E4.bel, by omega, fun b _ _ => rfl⟩
  clear E E4
  replace QB := Lib.hid QB
  replace RB := Lib.hid RB
  replace ZB := Lib.hid ZB
  replace OB := Lib.hid OB
  replace SB := Lib.hid SB
  replace hwB := Lib.hid hwB
  replace X0 := Lib.hid X0
  have hLn := Lib.hid (sqList_length n A)
  have hN1 := Lib.hid (show w.heap.size ≤ w.heap.size + 1 + 1 + 1 by omega)
  go_enter Tryd.func50, Tryd.ntmps50
  go_wp2
  go_loopw [13] (fun v wr => ∃ (i : Nat) (dv : Value), i ≤ n ∧ v = .int .i64 i ∧ OutAt w wB (w.heap.size + 1 + 1 + 1) (w.heap.size + 1 + 1 + 1 + 1) false (.slice (some ⟨w.heap.size + 1 + 1, 0, none⟩) 2 2) dv ((sqList n A).take (i * n)) wr) (fun v _ => n - (intOf v).toNat)
  case atStart =>
    refine ⟨0, .slice none 0 0, Nat.zero_le _, rfl, ?_⟩
    rw [Nat.zero_mul, List.take_zero, ← hwB.out]
    exact OB.out
  case round =>
    obtain ⟨i, dv, hin, rfl, hO⟩ := hrel
    clear c0
    by_cases hlt : i < n
    · obtain ⟨⟨⟨c0, c1, c2⟩, f2⟩, hown, hbel, hsz2, hrest⟩ := id hO
      have hQ := (hrest w.heap.size (by omega) (by omega)).trans QB.out
      have cn := sq_cell0 hQ
      have hrow := sq_row hQ (n := n) (i := i) (by omega) hn
      have htk := sqList_take A hlt
      have hnn : (i + 1) * n ≤ n * n := Nat.mul_le_mul_right n hlt
      have hn2 : n * n ≤ 6 * 6 := Nat.mul_le_mul hn hn
      have hlk : ((sqList n A).take (i * n)).length = i * n := by rw [List.length_take, hLn.out]; rw [Nat.add_mul] at hnn; omega
      have hin2 : i * n ≤ 36 := by rw [Nat.add_mul] at hnn; omega
      have hrl := sqRow_length n A i
      obtain ⟨q, hq2⟩ : ∃ q, q = i * n := ⟨_, rfl⟩
      rw [← hq2] at hlk hown hO htk hin2
      generalize (sqList n A).take q = ys at *
      generalize sqRow n A i = zs at *
      obtain ⟨av, cv, rfl, _, _, _⟩ := hown.view
      rw [hlk] at c2 hown hO
      have i6 : (i : Int) < 6 := by omega
      have n6 : (n : Int) ≤ 6 := by omega
      have hBr : Below (w.heap.size + 1 + 1 + 1 + 1) wr wr.drew := (Below.refl _ wr).drew
      have hown' : Own wr.drew (w.heap.size + 1 + 1 + 1 + 1) (.slice av q cv) ys := hown
      have hrow' : Row wr.drew (some ⟨w.heap.size, 1 + i * 6, none⟩) zs := hrow
      have hlen : ys.length + zs.length < 17592186044416 := by omega
      have hlk2 := Lib.hid (show q + n = ys.length + zs.length by rw [hlk, hrl])
      clear hown hrest hrow hQ
      replace hlk := Lib.hid hlk
      replace hrl := Lib.hid hrl
      replace htk := Lib.hid htk
      replace hq2 := Lib.hid hq2
      clear hnn hn2
      go_wp2_with fail
      go_region_law ((refine step_app_row rfl (.tmp 17) (.tmp 23) rfl (w.heap.size + 1 + 1 + 1 + 1) _ ys zs ⟨w.heap.size, 1 + i * 6, none⟩ n 6 rfl hown' rfl hrl.out.symm hrow' hlen (by simp; omega) (q + n) hlk2.out ?_; intro a' c' w' ho' hb'; have d2 := (hb'.cell (by show w.heap.size + 1 + 1 + 1 < _; omega)).trans ((hBr.cell (by show w.heap.size + 1 + 1 + 1 < _; omega)).trans c2); have g2 := (hb'.frozen (by show w.heap.size + 1 + 1 + 1 < _; omega)).trans ((hBr.frozen (by show w.heap.size + 1 + 1 + 1 < _; omega)).trans f2)))
      all_goals go_wp2
      all_goals go_roundw
      all_goals
        first
          | exact ⟨i + 1, _, by omega, by go_num, by rw [htk.out]; exact hO.step hN1.out (Nat.lt_succ_self _) (hBr.trans hb') ho'⟩
          | (simp [intOf]; omega)
    · obtain rfl : i = n := by omega
      rw [List.take_of_length_le (by rw [hLn.out]; exact Nat.le_refl _)] at hO
      obtain ⟨⟨z0, z1, z2⟩, g0, g1, g2⟩ := hO.box (by omega) (by omega) ZB.out
      obtain ⟨⟨⟨c0, c1, c2⟩, f2⟩, hown, hbel, hsz2, hrest⟩ := id hO
      have hRB := (hrest (w.heap.size + 1 + 1) (by omega) (by omega)).trans RB.out
      have hrow : Row wr (some ⟨w.heap.size + 1 + 1, 0, none⟩) [(i : Int), (i : Int)] := row_two (by rw [cell_of_row _ _ _ _ _ _ hRB]; rfl) (by rw [cell_of_row _ _ _ _ _ _ hRB]; rfl)
      have hne : w.heap.size + 1 ≠ w.heap.size + 1 + 1 := by omega
      have p5 : w.heap.size + 1 < w.heap.size + 1 + 1 + 1 + 1 := by omega
      obtain ⟨av, cv, rfl, _, _, rv⟩ := hown.view
      clear hrest hRB hO
      go_wp2
      refine bodyPost_ret (v := arrV false (some ⟨w.heap.size + 1 + 1, 0, none⟩) 2 2 av (sqList i A).length cv) (by simp [results, Tryd.results50, go_sem, cell?_set_same, z0, z1, z2]) rfl ?_
      exact ⟨_, _, _, _, rfl, ((hrow.setFar _ _ hne).setFar _ _ hne).setFar _ _ hne, (((hown.setCell _ _ p5).setCell _ _ p5).setCell _ _ p5).row, fun p e => by cases e; show w.heap.size ≤ w.heap.size + 1 + 1; omega, fun p e => by have := own_fresh hown p e; omega, Nat.le_refl _, set3 hbel (by omega) _ _ _⟩

end Go.Proofs.YtcenhemlgapkeaaDoor
