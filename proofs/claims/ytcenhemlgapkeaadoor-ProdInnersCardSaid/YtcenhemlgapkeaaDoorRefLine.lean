/- The document's Line: the cells along an axis. Condition: rows that lie; places that are there. -/
import Derived.Test.YtcenhemlgapkeaaDoorRefOuter
import Derived.Test.YtcenhemlgapkeaaDoorOwnAt
import Derived.Test.YtcenhemlgapkeaaDoorBdS
namespace Go.Proofs.YtcenhemlgapkeaaDoor
open Go.RowKit

/-- A store below leaves an own row. -/
theorem own_far {w : World} {B : Nat} {v : Value} {ys : List Int} (h : Own w B v ys) (p : Addr) (x : Value) (hp : p.block < B) : Own (w.setCell p x) B v ys := by
  refine ⟨h.1, ?_⟩
  rcases h.2 with h2 | ⟨g, cap, cur, hv, hg, hh, r⟩
  · exact .inl h2
  · exact .inr ⟨g, cap, cur, hv, hg, by rw [Below.heap_setCell w p x g (by omega)]; exact hh, r⟩
theorem setat_same (t : List Int) (k : Nat) : t.set k (t.getD k 0) = t := by
  apply List.ext_getElem?
  intro i
  rw [List.getElem?_set]
  by_cases e : k = i
  · subst e
    rw [if_pos rfl]
    by_cases h : k < t.length
    · rw [if_pos h, List.getD_eq_getElem?_getD, List.getElem?_eq_getElem h]; rfl
    · rw [if_neg h, List.getElem?_eq_none (by omega)]
  · rw [if_neg e]
theorem take_next {t : List Int} {j : Nat} (h : j < t.length) : t.take (j + 1) = t.take j ++ [t.getD j 0] := by
  rw [List.take_succ_eq_append_getElem h, List.getD_eq_getElem?_getD, List.getElem?_eq_getElem h]; rfl
theorem map_next (F : Nat → Int) (j : Nat) : (List.range (j + 1)).map F = (List.range j).map F ++ [F j] := by
  rw [List.range_succ, List.map_append]; rfl

set_option maxRecDepth 20000 in
set_option maxHeartbeats 16000000 in
theorem refLine_any (ch : Bool) (a b : Option Addr) (s d : List Int) (m c n z : Nat) (k : Nat) (at_ : Option Addr) (t : List Int) (nt ct P : Nat) (F : Nat → Nat) (q : Int) (w : World) (hs : Row w a s) (hd : Row w b d) (ls : s.length ≤ maxLen) (ld : d.length ≤ maxLen) (ht : Row w at_ t) (hq : M.count s = .ok q)
    (hk : k < t.length) (ht6 : t.length ≤ 6) (hP : P ≤ 4096) (hF : ∀ j : Nat, j < P → M.InR s (t.set k j) ∧ M.placeN 0 s (t.set k j) = (F j : Int) ∧ F j < d.length) (em : m = s.length) (en : n = d.length) (et : nt = t.length) :
    Calls Tryd.prog 73 #[arrV ch a m c b n z, .int .i64 k, .slice at_ nt ct, .int .i64 0, .int .i64 P] w fun e w' => ∃ v, e = .returned v ∧ Own w' w.heap.size v ((List.range P).map fun j => d.getD (F j) 0) ∧ Below w.heap.size w w' := by
  subst em
  subst en
  subst et
  have E := (Env.start w).box ch a s.length c b d.length z
  have hB0 := E.getBox 0 rfl
  have hbel0 := E.bel
  clear E
  obtain ⟨w1, hw1⟩ : ∃ w1 : World, w1 = w.alloc (.cells #[.bool ch, .slice a s.length c, .slice b d.length z] 24) := ⟨_, rfl⟩
  have hs1 : w1.heap.size = w.heap.size + 1 := by rw [hw1]; simp
  rw [← hw1] at hB0 hbel0
  have hw1' := Lib.hid hw1
  clear hw1
  replace hF := Lib.hid hF
  replace hq := Lib.hid hq
  go_enter Tryd.func73, Tryd.ntmps73
  go_wp2
  rw [← hw1'.out]
  go_loopw [12, 13] (fun v i wr => ∃ (j : Nat), j ≤ t.length ∧ i = .int .i64 j ∧ Own wr (w.heap.size + 1) v (t.take j) ∧ Below w.heap.size w wr ∧ BoxF wr w.heap.size ch a s.length c b d.length z ∧ w.heap.size + 1 ≤ wr.heap.size) (fun _ i _ => t.length - (intOf i).toNat)
  case atStart => exact ⟨0, Nat.zero_le _, rfl, by rw [List.take_zero]; exact Own.nil _ _, hbel0, hB0, by omega⟩
  case round =>
    obtain ⟨j, hj, rfl, hown, hbel, hbox, hsz⟩ := hrel
    clear hB0 hbel0 hw1'
    by_cases hlt : j < t.length
    · obtain ⟨g, o, rfl, hc⟩ := ht.below hbel j hlt
      have hnx := Lib.hid (take_next hlt)
      have hlen : (t.take j).length < 17592186044416 := by rw [List.length_take]; omega
      generalize t.getD j 0 = x at *
      replace hown := Lib.hid hown
      replace hbox := Lib.hid hbox
      replace hlen := Lib.hid hlen
      obtain ⟨av, cv, hv, -, -, -⟩ := hown.out.view
      subst hv
      go_wp2_with (at_builtin; refine app_int rfl (.tmp 21) (.tmp 26) rfl (w.heap.size + 1) _ (t.take j) x rfl hown.out rfl hlen.out hsz ?_; intro v' w' ho' hb' hl'; have hfin := Lib.hid ho'; have hbf := Lib.hid hb')
      go_roundw
      case rel => exact ⟨j + 1, by omega, by go_num, by rw [hnx.out]; exact hfin.out, hbel.trans (hbf.out.mono (by omega)), boxF_eqO hbox.out (hbf.out.block _ (by omega)), by omega⟩
      case measure => simp [intOf]; omega
    · obtain rfl : j = t.length := by omega
      rw [List.take_length] at hown
      obtain ⟨g, cap, rfl, hg1, hg2⟩ := own_slice hown (by omega)
      obtain ⟨w2, hw2⟩ : ∃ w2 : World, w2 = wr := ⟨_, rfl⟩
      subst hw2
      have hst : Own w2 (w.heap.size + 1) (.slice (some ⟨g, 0, none⟩) t.length cap) (t.set k (t.getD k 0)) := by rw [setat_same]; exact hown
      replace hst := Lib.hid hst
      replace hbox := Lib.hid hbox
      clear hown
      go_wp2
      go_loopw [11, 14] (fun v i wr => ∃ (j : Nat) (x : Int), j ≤ P ∧ i = .int .i64 j ∧ Own wr w2.heap.size v ((List.range j).map fun j => d.getD (F j) 0) ∧ Own wr (w.heap.size + 1) (.slice (some ⟨g, 0, none⟩) t.length cap) (t.set k x) ∧ Below w.heap.size w wr ∧ BoxF wr w.heap.size ch a s.length c b d.length z ∧ w2.heap.size ≤ wr.heap.size) (fun _ i _ => P - (intOf i).toNat)
      case atStart => exact ⟨0, _, Nat.zero_le _, rfl, Own.nil _ _, hst.out, hbel, hbox.out, Nat.le_refl _⟩
      case round =>
        obtain ⟨j, x, hj, rfl, hown, hset, hbel2, hbox2, hsz2⟩ := hrel
        clear hst hbox hbel
        by_cases hlt : j < P
        · obtain ⟨p1, p2, p3⟩ := hF.out j hlt
          have hfz := own_frozen hset k
          have hlk : k < (t.set k x).length := by rw [List.length_set]; exact hk
          have hcell := own_cell hset hlk
          have hst := own_store hset hlk (j : Int)
          rw [List.set_set] at hst
          obtain ⟨w3, hw3⟩ : ∃ w3 : World, w3 = wr.setCell ⟨g, k, none⟩ (.int .i64 (j : Int)) := ⟨_, rfl⟩
          have hb3 : Below w.heap.size w w3 := by rw [hw3]; exact hbel2.setCell (by show w.heap.size ≤ g; omega) _
          have hbx3 : BoxF w3 w.heap.size ch a s.length c b d.length z := by rw [hw3]; exact boxF_eqO hbox2 (Below.heap_setCell _ _ _ _ (by show w.heap.size ≠ g; omega))
          have ho3 := own_far hown ⟨g, k, none⟩ (.int .i64 (j : Int)) hg2
          rw [← hw3] at ho3
          have hs3 : w2.heap.size ≤ w3.heap.size := by rw [hw3]; simpa using hsz2
          rw [← hw3] at hst
          have hnx := Lib.hid (map_next (fun j => d.getD (F j) 0) j)
          have hll : ((List.range j).map fun j => d.getD (F j) 0).length = j := by simp
          generalize (List.range j).map (fun j => d.getD (F j) 0) = ys at *
          obtain ⟨bd, od, rfl, hcd⟩ := hd.below hb3 (F j) p3
          generalize d.getD (F j) 0 = y at *
          have hwh := fun W (h1 : Row W a s) (h2 : Row W (some ⟨g, 0, none⟩) (t.set k (j : Int))) => where_any a (some ⟨g, 0, none⟩) s (t.set k (j : Int)) s.length t.length c cap q W h1 h2 p1 hq.out rfl (by rw [List.length_set])
          rw [p2] at hwh
          have hrs := hs.below hb3
          have hrt := hst.row
          have hcall := Lib.hid (hwh w3.drew hrs hrt)
          obtain ⟨av, cv, hv, -, -, -⟩ := ho3.view
          subst hv
          have hownA : Own (w3.alloc (.cells #[.int .i64 y] 3)) w2.heap.size (.slice av ys.length cv) ys := ho3.below (push (start w3) _)
          have hown' : Own (w3.alloc (.cells #[.int .i64 y] 3)).drew w2.heap.size (.slice av ys.length cv) ys := hownA
          have hlen : ys.length < 17592186044416 := by omega
          have hlk2 := Lib.hid (show j + 1 = ys.length + 1 by omega)
          have hBr : Below w2.heap.size w3 (w3.alloc (.cells #[.int .i64 y] 3)).drew := ((Below.refl _ w3).alloc hs3 _).drew
          obtain ⟨⟨x0, x1, x2⟩, -, -, -⟩ := id hbx3
          replace hst := Lib.hid hst
          replace hbx3 := Lib.hid hbx3
          replace hw3 := Lib.hid hw3
          clear hwh hrs hrt ho3 hset hbox2 hown p1 p2 hll
          go_wp2
          rw [← hw3.out]
          go_region_law ((first
            | ((try go_simp); go_at_call 64; refine hcall.out.mono ?_; rintro e w5 ⟨rfl, rfl⟩)
            | (refine step_app_int rfl (.tmp 40) (.tmp 49) rfl w2.heap.size _ ys y w3.heap.size rfl hown' rfl (by simp [go_sem]) hlen (by simp; omega) (j + 1) hlk2.out ?_; intro a' c' w' ho' hb'; have hfin := Lib.hid ho'; have hbf := Lib.hid (hBr.trans hb'))))
          all_goals go_wp2
          all_goals go_roundw
          all_goals
            first
              | exact ⟨j + 1, _, by omega, by go_num, by rw [hnx.out]; exact hfin.out, own_same hst.out (hbf.out.block _ hg2), hb3.trans (hbf.out.mono (by omega)), boxF_eqO hbx3.out (hbf.out.block _ (by omega)), Nat.le_trans hs3 hbf.out.size⟩
              | (simp [intOf]; omega)
        · obtain rfl : j = P := by omega
          obtain ⟨av, cv, hv, -, -, -⟩ := hown.view
          subst hv
          replace hown := Lib.hid hown
          clear hset hbox2
          go_wp2
          go_ret
          exact ⟨_, rfl, hown.out.low (by omega), hbel2⟩
end Go.Proofs.YtcenhemlgapkeaaDoor
