/- Texts that lie in one file: what is plain, rows, boxes, squares, and what is known of a world. No condition. -/
import Derived.Test.YtaplaoelamnoiaaGreatDoorBd00
import Derived.Test.YtaplaoelamnoiaaGreatDoorBd04
import Derived.Deep.RegionHeld
import Derived.Test.YtaplaoelamnoiaaGreatDoorBd02
/- The calls arr.Iota and arr.Match. Condition: rows that lie as lists of ints. -/
namespace Go.Proofs.YtaplaoelamnoiaaGreatDoor
open Go.RowKit

def upTo (n : Nat) : List Int := (List.range n).map (fun (i : Nat) => (i : Int))
theorem upTo_succ (n : Nat) : upTo (n + 1) = upTo n ++ [(n : Int)] := by simp [upTo, List.range_succ]
theorem upTo_length (n : Nat) : (upTo n).length = n := by simp [upTo]

/-- What the loop of Iota keeps. -/
def IotaAt (n : Int) (w : World) (k : Nat) (v : Value) (wr : World) : Prop :=
  (wr.cell? ⟨w.heap.size + 1 + 1, 0, none⟩ = some (.bool false) ∧ wr.cell? ⟨w.heap.size + 1 + 1, 1, none⟩ = some (.slice (some ⟨w.heap.size + 1, 0, none⟩) 1 1) ∧ wr.cell? ⟨w.heap.size + 1 + 1, 2, none⟩ = some v) ∧
  wr.frozen? ⟨w.heap.size + 1 + 1, 2, none⟩ = false ∧ Own wr (w.heap.size + 1 + 1 + 1) v (upTo k) ∧ wr.cell? ⟨w.heap.size + 1, 0, none⟩ = some (.int .i64 n) ∧
  (wr.cell? ⟨w.heap.size, 0, none⟩ = some (.bool false) ∧ wr.cell? ⟨w.heap.size, 1, none⟩ = some (.slice none 0 0) ∧ wr.cell? ⟨w.heap.size, 2, none⟩ = some (.slice none 0 0)) ∧
  (wr.frozen? ⟨w.heap.size, 0, none⟩ = false ∧ wr.frozen? ⟨w.heap.size, 1, none⟩ = false ∧ wr.frozen? ⟨w.heap.size, 2, none⟩ = false) ∧
  Below w.heap.size w wr ∧ w.heap.size + 1 + 1 + 1 ≤ wr.heap.size

theorem iota_step {n : Int} {w wr w' : World} {k : Nat} {v v' : Value} (h : IotaAt n w k v wr) (hb : Below (w.heap.size + 1 + 1 + 1) wr w') (ho : Own w' (w.heap.size + 1 + 1 + 1) v' (upTo k ++ [(k : Int)])) :
    IotaAt n w (k + 1) v' (w'.setCell ⟨w.heap.size + 1 + 1, 2, none⟩ v') := by
  obtain ⟨⟨c0, c1, c2⟩, f2, hown, cn, ⟨z0, z1, z2⟩, ⟨y0, y1, y2⟩, hbel, hsz⟩ := h
  have old : ∀ (b o : Nat) (u : Value), b < w.heap.size + 1 + 1 + 1 → wr.cell? ⟨b, o, none⟩ = some u → w'.cell? ⟨b, o, none⟩ = some u := fun b o u hlt hc => (hb.cell (by exact hlt)).trans hc
  have fz : ∀ (b o : Nat), b < w.heap.size + 1 + 1 + 1 → wr.frozen? ⟨b, o, none⟩ = false → w'.frozen? ⟨b, o, none⟩ = false := fun b o hlt hc => (hb.frozen (by exact hlt)).trans hc
  have hb0 : Below w.heap.size w w' := hbel.trans (hb.mono (by omega))
  unfold IotaAt
  refine ⟨⟨?_, ?_, ?_⟩, ?_, ?_, ?_, ⟨?_, ?_, ?_⟩, ⟨?_, ?_, ?_⟩, hb0.setCell (by simp; omega) _, ?_⟩
  · rw [World.cell?_setCell_other _ _ _ _ (by simp)]; exact old _ _ _ (by omega) c0
  · rw [World.cell?_setCell_other _ _ _ _ (by simp)]; exact old _ _ _ (by omega) c1
  · exact cell?_set_same _ _ _ (by rw [old _ _ _ (by omega) c2]; rfl)
  · rw [World.frozen?_setCell]; exact fz _ _ (by omega) f2
  · rw [upTo_succ]; exact ho.setCell _ _ (by simp)
  · rw [World.cell?_setCell_far _ _ _ _ (by simp)]; exact old _ _ _ (by omega) cn
  · rw [World.cell?_setCell_far _ _ _ _ (by simp; omega)]; exact old _ _ _ (by omega) z0
  · rw [World.cell?_setCell_far _ _ _ _ (by simp; omega)]; exact old _ _ _ (by omega) z1
  · rw [World.cell?_setCell_far _ _ _ _ (by simp; omega)]; exact old _ _ _ (by omega) z2
  · rw [World.frozen?_setCell]; exact fz _ _ (by omega) y0
  · rw [World.frozen?_setCell]; exact fz _ _ (by omega) y1
  · rw [World.frozen?_setCell]; exact fz _ _ (by omega) y2
  · have := hb.size; simp; omega

set_option maxHeartbeats 1000000 in
theorem iota_any (n : Int) (w : World) (hw : I64 n) :
    Calls Tryz.prog 170 #[.int .i64 n] w fun e w' => ArrPost (M.iota n) w e w' := by
  by_cases h0 : n < 0
  · have hr := Lib.hid (show M.iota n = .error 6 from if_pos h0)
    go_enter Tryz.func170, Tryz.ntmps170
    go_wp2
    refine bodyPost_ret (v := .tuple #[arrV false none 0 0 none 0 0, .iface 46 (.int .i64 6)]) (by simp [results, Tryz.results170, go_sem]) rfl ?_
    exact .error hr.out rfl ((Below.refl _ w).alloc (Nat.le_refl _) _)
  · by_cases h1 : 4096 < n
    · have hr := Lib.hid (show M.iota n = .error 7 from (if_neg h0).trans (if_pos h1))
      go_enter Tryz.func170, Tryz.ntmps170
      go_wp2
      refine bodyPost_ret (v := .tuple #[arrV false none 0 0 none 0 0, .iface 46 (.int .i64 7)]) (by simp [results, Tryz.results170, go_sem]) rfl ?_
      exact .error hr.out rfl ((Below.refl _ w).alloc (Nat.le_refl _) _)
    · obtain ⟨m, rfl⟩ : ∃ m : Nat, n = m := ⟨n.toNat, by omega⟩
      have hr := Lib.hid (show M.iota m = .ok ⟨false, [(m : Int)], upTo m⟩ from (if_neg h0).trans (if_neg h1))
      have hm : m ≤ 4096 := by omega
      clear h0 h1 hw
      go_enter Tryz.func170, Tryz.ntmps170
      go_wp2
      go_loopw [18] (fun i wr => ∃ k v, k ≤ m ∧ i = .int .i64 (k : Nat) ∧ IotaAt m w k v wr) (fun i _ => m - (intOf i).toNat)
      case atStart =>
        refine ⟨0, .slice none 0 0, Nat.zero_le _, rfl, ?_⟩
        unfold IotaAt
        exact ⟨⟨by simp [go_sem], by simp [go_sem], by simp [go_sem]⟩, by simp [go_sem], Own.nil _ _, by simp [go_sem], ⟨by simp [go_sem], by simp [go_sem], by simp [go_sem]⟩, ⟨by simp [go_sem], by simp [go_sem], by simp [go_sem]⟩, (((Below.refl _ w).alloc (Nat.le_refl _) _).alloc (by simp) _).alloc (by simp; omega) _, by simp⟩
      case round =>
        obtain ⟨k, v, hk, rfl, hI⟩ := hrel
        obtain ⟨⟨c0, c1, c2⟩, f2, hown, cn, ⟨z0, z1, z2⟩, ⟨y0, y1, y2⟩, hbel, hsz⟩ := id hI
        have hlen : (upTo k).length < 17592186044416 := by rw [upTo_length]; omega
        by_cases hlt : k < m
        · have hus := Lib.hid (upTo_succ k)
          go_wp2_with (at_builtin; refine app_int rfl (.tmp 22) (.tmp 24) rfl (w.heap.size + 1 + 1 + 1) _ (upTo k) k rfl hown rfl hlen hsz ?_; intro v' w' ho' hb' hl'; have d2 := (hb'.cell (by show w.heap.size + 1 + 1 < _; omega)).trans c2; obtain ⟨a', k', rfl, -, -, -⟩ := ho'.view; have g2 := (hb'.frozen (by show w.heap.size + 1 + 1 < _; omega)).trans f2)
          go_roundw
          case rel =>
            exact ⟨k + 1, _, by omega, by go_num, iota_step hI hb' (by have h := ho'; rw [List.length_append] at h; exact h)⟩
          case measure => simp [intOf]; omega
        · obtain rfl : k = m := by omega
          obtain ⟨a', k', rfl, -, -, r'⟩ := hown.view
          go_wp2
          refine bodyPost_ret (v := .tuple #[arrV false (some ⟨w.heap.size + 1, 0, none⟩) 1 1 a' (upTo k).length k', .nilIface]) (by simp [results, Tryz.results170, go_sem, cell?_set_same, z0, z1, z2]) rfl ?_
          refine .ok (x := ⟨false, [(k : Int)], upTo k⟩) hr.out rfl (fun i hi => ⟨_, _, rfl, ?_⟩) (((hown.setCell _ _ (by show w.heap.size < _; omega)).setCell _ _ (by show w.heap.size < _; omega)).setCell _ _ (by show w.heap.size < _; omega)).row (((hbel.setCell (by simp) _).setCell (by simp) _).setCell (by simp) _)
          obtain rfl : i = 0 := by simpa using hi
          rw [World.cell?_setCell_far _ _ _ _ (by simp), World.cell?_setCell_far _ _ _ _ (by simp), World.cell?_setCell_far _ _ _ _ (by simp)]
          exact cn

end Go.Proofs.YtaplaoelamnoiaaGreatDoor

/- The call arr.Iota: its array lies in new memory. Condition: an int of 64 bits. -/
namespace Go.Proofs.YtaplaoelamnoiaaGreatDoor
open Go.RowKit

set_option maxHeartbeats 1000000 in
theorem iotaF_any (n : Int) (w : World) (hw : I64 n) :
    Calls Tryz.prog 170 #[.int .i64 n] w fun e w' => ArrPostF (M.iota n) w e w' := by
  by_cases h0 : n < 0
  · have hr := Lib.hid (show M.iota n = .error 6 from if_pos h0)
    go_enter Tryz.func170, Tryz.ntmps170
    go_wp2
    refine bodyPost_ret (v := .tuple #[arrV false none 0 0 none 0 0, .iface 46 (.int .i64 6)]) (by simp [results, Tryz.results170, go_sem]) rfl ?_
    exact .error hr.out rfl ((Below.refl _ w).alloc (Nat.le_refl _) _)
  · by_cases h1 : 4096 < n
    · have hr := Lib.hid (show M.iota n = .error 7 from (if_neg h0).trans (if_pos h1))
      go_enter Tryz.func170, Tryz.ntmps170
      go_wp2
      refine bodyPost_ret (v := .tuple #[arrV false none 0 0 none 0 0, .iface 46 (.int .i64 7)]) (by simp [results, Tryz.results170, go_sem]) rfl ?_
      exact .error hr.out rfl ((Below.refl _ w).alloc (Nat.le_refl _) _)
    · obtain ⟨m, rfl⟩ : ∃ m : Nat, n = m := ⟨n.toNat, by omega⟩
      have hr := Lib.hid (show M.iota m = .ok ⟨false, [(m : Int)], upTo m⟩ from (if_neg h0).trans (if_neg h1))
      have hm : m ≤ 4096 := by omega
      clear h0 h1 hw
      go_enter Tryz.func170, Tryz.ntmps170
      go_wp2
      go_loopw [18] (fun i wr => ∃ k v, k ≤ m ∧ i = .int .i64 (k : Nat) ∧ IotaAt m w k v wr) (fun i _ => m - (intOf i).toNat)
      case atStart =>
        refine ⟨0, .slice none 0 0, Nat.zero_le _, rfl, ?_⟩
        unfold IotaAt
        exact ⟨⟨by simp [go_sem], by simp [go_sem], by simp [go_sem]⟩, by simp [go_sem], Own.nil _ _, by simp [go_sem], ⟨by simp [go_sem], by simp [go_sem], by simp [go_sem]⟩, ⟨by simp [go_sem], by simp [go_sem], by simp [go_sem]⟩, (((Below.refl _ w).alloc (Nat.le_refl _) _).alloc (by simp) _).alloc (by simp; omega) _, by simp⟩
      case round =>
        obtain ⟨k, v, hk, rfl, hI⟩ := hrel
        obtain ⟨⟨c0, c1, c2⟩, f2, hown, cn, ⟨z0, z1, z2⟩, ⟨y0, y1, y2⟩, hbel, hsz⟩ := id hI
        have hlen : (upTo k).length < 17592186044416 := by rw [upTo_length]; omega
        by_cases hlt : k < m
        · have hus := Lib.hid (upTo_succ k)
          go_wp2_with (at_builtin; refine app_int rfl (.tmp 22) (.tmp 24) rfl (w.heap.size + 1 + 1 + 1) _ (upTo k) k rfl hown rfl hlen hsz ?_; intro v' w' ho' hb' hl'; have d2 := (hb'.cell (by show w.heap.size + 1 + 1 < _; omega)).trans c2; obtain ⟨a', k', rfl, -, -, -⟩ := ho'.view; have g2 := (hb'.frozen (by show w.heap.size + 1 + 1 < _; omega)).trans f2)
          go_roundw
          case rel =>
            exact ⟨k + 1, _, by omega, by go_num, iota_step hI hb' (by have h := ho'; rw [List.length_append] at h; exact h)⟩
          case measure => simp [intOf]; omega
        · obtain rfl : k = m := by omega
          obtain ⟨a', k', rfl, -, -, r'⟩ := hown.view
          go_wp2
          refine bodyPost_ret (v := .tuple #[arrV false (some ⟨w.heap.size + 1, 0, none⟩) 1 1 a' (upTo k).length k', .nilIface]) (by simp [results, Tryz.results170, go_sem, cell?_set_same, z0, z1, z2]) rfl ?_
          refine .ok (x := ⟨false, [(k : Int)], upTo k⟩) hr.out rfl (fun i hi => ⟨_, _, rfl, ?_⟩) (((hown.setCell _ _ (by show w.heap.size < _; omega)).setCell _ _ (by show w.heap.size < _; omega)).setCell _ _ (by show w.heap.size < _; omega)).row (fun p e => by cases e; show w.heap.size ≤ w.heap.size + 1; omega) (fun p e => by have := own_fresh hown p e; omega) (Nat.le_refl 1) (((hbel.setCell (by simp) _).setCell (by simp) _).setCell (by simp) _)
          obtain rfl : i = 0 := by simpa using hi
          rw [World.cell?_setCell_far _ _ _ _ (by simp), World.cell?_setCell_far _ _ _ _ (by simp), World.cell?_setCell_far _ _ _ _ (by simp)]
          exact cn

end Go.Proofs.YtaplaoelamnoiaaGreatDoor

/- The calls num and Within that the laws of the whole use. No condition. -/
namespace Go.Proofs.YtaplaoelamnoiaaGreatDoor
open Go.RowKit

set_option maxRecDepth 20000 in
set_option maxHeartbeats 4000000 in
theorem num_any (n : Int) (w : World) :
    Calls Tryz.prog 15 #[.int .i64 n] w fun en w' => ∃ g : Nat, en = .returned (arrV false none 0 0 (some ⟨g, 0, none⟩) 1 1) ∧ w.heap.size ≤ g ∧ Row w' (some ⟨g, 0, none⟩) [n] ∧ Below w.heap.size w w' := by
  go_enter Tryz.func15, Tryz.ntmps15
  go_wp2
  have hb := push (push (start w) (.cells #[.bool false, .slice none 0 0, .slice (some ⟨w.heap.size + 1, 0, none⟩) 1 1] 24)) (.cells #[.int .i64 n] 3)
  refine bodyPost_ret (v := arrV false none 0 0 (some ⟨w.heap.size + 1, 0, none⟩) 1 1) (by simp [results, Tryz.results15, go_sem, arrV]) rfl ?_
  exact ⟨w.heap.size + 1, rfl, by omega, row_one (by simp [go_sem]), hb⟩

set_option maxRecDepth 20000 in
set_option maxHeartbeats 4000000 in
theorem withinS_any (n lo hi : Int) (w : World) :
    Calls Tryz.prog 14 #[.int .i64 n, .int .i64 lo, .int .i64 hi] w fun en w' => en = .returned (.bool (decide (lo ≤ n) && decide (n ≤ hi))) ∧ w' = w := by
  cases h1 : decide (lo ≤ n)
  · go_enter Tryz.func14, Tryz.ntmps14
    go_wp2
    go_ret
    exact ⟨rfl, rfl⟩
  · go_enter Tryz.func14, Tryz.ntmps14
    go_wp2
    go_ret
    exact ⟨rfl, rfl⟩
end Go.Proofs.YtaplaoelamnoiaaGreatDoor
