/- The document's Determinant and Det: over all orders, the first row's column first. Condition: at most six rows, in a row of ints. -/
import Derived.Test.YtcenhemlgapkeaaDoorBdD
import Derived.Test.YtcenhemlgapkeaaDoorMinorPlain
import Derived.Test.YtcenhemlgapkeaaDoorCharPlain
import Derived.Test.YtcenhemlgapkeaaDoorBdA
import Derived.RegionTactic
import Derived.Deep.QuietTactic
import Derived.Deep.RegionHeld3
import Derived.BigQuiet
import Derived.Deep.Cut
import Derived.Deep.CutRange
namespace Go.Proofs.YtcenhemlgapkeaaDoor
open Go.RowKit

/-- A boolean written and written back, with a call between. -/
theorem below_back {w w2 : World} {u j : Nat} {U : List Bool} {T : TypeId} (h0 : w.heap[u]? = some (.cells (boolCells U) T (0, 0))) (hj : U.getD j true = false)
    (hb : Below (w.setCell ⟨u, j, none⟩ (.bool true)).heap.size (w.setCell ⟨u, j, none⟩ (.bool true)) w2) : Below w.heap.size w (w2.setCell ⟨u, j, none⟩ (.bool false)) := by
  have hu : u < w.heap.size := lt_of_some h0
  have hs : (w.setCell ⟨u, j, none⟩ (.bool true)).heap.size = w.heap.size := by simp
  have h1 : Below u w (w2.setCell ⟨u, j, none⟩ (.bool false)) := (((Below.refl u w).setCell (p := ⟨u, j, none⟩) (Nat.le_refl _) (.bool true)).trans (hb.mono (by rw [hs]; omega))).setCell (p := ⟨u, j, none⟩) (Nat.le_refl _) (.bool false)
  refine ⟨h1.os, h1.tape, h1.output, h1.size, fun k hk => ?_⟩
  by_cases e : k = u
  · subst e
    have hset := bool_set h0 j true
    have hw2 := (hb.block k (by rw [hs]; exact hk)).trans hset
    rw [bool_set hw2 j false, h0]
    congr 2
    have : (U.set j true).set j false = U := by
      rw [List.set_set]
      apply List.ext_getElem?
      intro i
      by_cases e : j = i
      · subst e
        rw [List.getElem?_set]
        by_cases hl : j < U.length
        · rw [if_pos rfl, if_pos hl, List.getElem?_eq_getElem hl]
          rw [List.getD_eq_getElem?_getD, List.getElem?_eq_getElem hl] at hj
          rw [← hj]; rfl
        · rw [if_pos rfl, if_neg hl, List.getElem?_eq_none (by omega)]
      · rw [List.getElem?_set_ne e]
    rw [this]
  · rw [Below.heap_setCell _ _ _ _ e, hb.block k (by rw [hs]; exact hk), Below.heap_setCell _ _ _ _ e]

theorem sg_cases (k : Nat) : (Mx.sg k : Int) = 1 ∨ (Mx.sg k : Int) = -1 := by unfold Mx.sg; split <;> simp
theorem neg_sg (k : Nat) : wrap64 (-(Mx.sg k : Int)) = -Mx.sg k := by rcases sg_cases k with h | h <;> rw [h] <;> exact wrap_id (by unfold I64; omega)
theorem wrap_sg (k : Nat) : wrap64 (Mx.sg k : Int) = Mx.sg k := by rcases sg_cases k with h | h <;> rw [h] <;> exact wrap_id (by unfold I64; omega)
theorem wrap_term (s : Int) (k : Nat) (a d : Int) : wrap64 (wrap64 s + wrap64 (wrap64 (Mx.sg k * wrap64 a) * wrap64 d)) = wrap64 (s + Mx.sg k * (a * d)) := by
  have h : wrap64 (wrap64 (Mx.sg k * wrap64 a) * wrap64 d) = wrap64 (Mx.sg k * (a * d)) := by
    rw [wrap_mul_l, wrap_mul_r, Int.mul_comm (Mx.sg k) (wrap64 a), Int.mul_assoc, wrap_mul_l, ← Int.mul_assoc, Int.mul_comm a, Int.mul_assoc]
  rw [wrap_add_l, h, wrap_add_r]
theorem row_far {w : World} {b : Option Addr} {xs : List Int} {u j : Nat} (h : Row w b xs) (hne : ∀ g o, b = some ⟨g, o, none⟩ → g ≠ u) (v : Value) : Row (w.setCell ⟨u, j, none⟩ v) b xs := by
  intro i hi
  obtain ⟨g, o, rfl, hc⟩ := h i hi
  refine ⟨g, o, rfl, ?_⟩
  rw [World.cell?_setCell_other _ _ _ _ (by intro h; cases h; exact hne _ _ rfl rfl)]
  exact hc
theorem used_at {U : List Bool} {j : Nat} (h : j < U.length) (d : Bool) : U.getD j d = U.getD j false := by
  rw [List.getD_eq_getElem?_getD, List.getD_eq_getElem?_getD, List.getElem?_eq_getElem h]; rfl

theorem held1 {w w' : World} {A : Addr} {a : Value} (hb : Below w.heap.size w w') (h : w.cell? A = some a) : w'.cell? A = some a := (hb.cell (World.block_lt_of_cell? w _ h)).trans h
theorem below_undrew {w w' : World} (h : Below w.drew.heap.size w.drew w') : Below w.heap.size w w' := ⟨h.os, h.tape, h.output, h.size, h.block⟩
/-- What a call leaves that tells a number, and nothing that was there turned. -/
def NumPost (k : Int) (w : World) (e : Ending) (w' : World) : Prop := e = .returned (.int .i64 k) ∧ Below w.heap.size w w'

set_option maxRecDepth 20000 in
set_option maxHeartbeats 16000000 in
theorem refDeter_any (n : Nat) (A : Nat → Nat → Int) (b : Option Addr) (z u c : Nat) (hn : n ≤ 6) (hne : n ≠ 0 → ∀ g o, b = some ⟨g, o, none⟩ → g ≠ u) (r : Nat) : ∀ (U : List Bool) (w : World) (_ : U.length = n) (_ : (placesTo U false n).length = r) (_ : Row w b (sqList n A)) (_ : w.heap[u]? = some (.cells (boolCells U) 4 (0, 0))),
    Calls Tryd.prog 51 #[.int .i64 (n : Int), .slice b (n * n) z, .slice (some ⟨u, 0, none⟩) n c] w (NumPost (wrap64 (detL A (n - r) (placesTo U false n))) w) := by
  induction r with
  | zero =>
    intro U w hU hr hrow hu
    have hrn : (placesTo U true n).length = n := by have := places_both n (by omega : n ≤ U.length); omega
    have hnil : placesTo U false n = [] := List.length_eq_zero_iff.1 hr
    rw [hnil]
    have hd : ∀ r, wrap64 (detL A r []) = 1 := fun r => by rw [detL_nil]; exact wrap_id (by unfold I64; omega)
    have hc := fun j (hj : j < n) => bool_cell hu (k := j) (by omega)
    replace hc := Lib.hid hc
    replace hd := Lib.hid hd
    clear hrow hnil hr
    replace hU := Lib.hid hU
    replace hu := Lib.hid hu
    go_enter Tryd.func51, Tryd.ntmps51
    go_wp2
    go_loop [7, 8] (fun v7 v8 => ∃ j : Nat, j ≤ n ∧ v8 = .int .i64 j ∧ v7 = .int .i64 ((placesTo U true j).length : Nat)) (fun _ v => n - (intOf v).toNat)
    case atStart => exact ⟨0, Nat.zero_le _, rfl, rfl⟩
    case round =>
      obtain ⟨j, hj, rfl, rfl⟩ := hrel
      by_cases hlj : j < n
      · have c1 := hc.out j hlj
        have hle := placesTo_le U true j
        cases hb : U.getD j false with
        | true =>
          rw [hb] at c1
          have e1 := Lib.hid (show (placesTo U true (j + 1)).length = (placesTo U true j).length + 1 by rw [placesTo_hit (v := true) hb, List.length_append]; rfl)
          generalize (placesTo U true j).length = q at *
          replace hb := Lib.hid hb
          replace hrn := Lib.hid hrn
          go_wp2
          go_round
          case rel => exact ⟨j + 1, hlj, num1 j, by rw [e1.out]; rfl⟩
          case measure => exact meas1 hlj
        | false =>
          rw [hb] at c1
          have e1 := Lib.hid (show (placesTo U true (j + 1)).length = (placesTo U true j).length by rw [placesTo_miss (v := true) hb])
          generalize (placesTo U true j).length = q at *
          replace hb := Lib.hid hb
          replace hrn := Lib.hid hrn
          go_wp2
          go_round
          case rel => exact ⟨j + 1, hlj, num1 j, by rw [e1.out]⟩
          case measure => exact meas1 hlj
      · obtain rfl : j = n := by omega
        rw [hrn]
        have t1 : ((j : Int) == (j : Int)) = true := beq_self_eq_true _
        clear hc
        go_wp2
        go_ret
        exact ⟨ret_int (hd.out _).symm, Below.refl _ _⟩
  | succ r ih =>
    intro U w hU hr hrow hu
    have hsum := places_both n (by omega : n ≤ U.length)
    have hrn : (placesTo U true n).length = n - (r + 1) := by omega
    have hr1 : r + 1 ≤ n := by omega
    obtain ⟨R, hR⟩ : ∃ R, R = n - (r + 1) := ⟨_, rfl⟩
    have hRn : R < n := by omega
    have hRr : n - r = R + 1 := by omega
    rw [← hR] at hrn ⊢
    rw [hRr] at ih
    have hend := dSum_end (A := A) (row := R) hr
    have hc := fun wr (hb : Below w.heap.size w wr) j (hj : j < n) => bool_cell ((hb.block u (lt_of_some hu)).trans hu) (k := j) (by omega)
    have hne' := hne (by omega)
    replace hc := Lib.hid hc
    replace hend := Lib.hid hend
    replace hU := Lib.hid hU
    replace hr := Lib.hid hr
    replace ih := Lib.hid ih
    replace hne' := Lib.hid hne'
    replace hrow := Lib.hid hrow
    replace hu := Lib.hid hu
    replace hR := Lib.hid hR
    clear hsum hne hr1
    go_enter Tryd.func51, Tryd.ntmps51
    go_wp2
    go_loop [7, 8] (fun v7 v8 => ∃ j : Nat, j ≤ n ∧ v8 = .int .i64 j ∧ v7 = .int .i64 ((placesTo U true j).length : Nat)) (fun _ v => n - (intOf v).toNat)
    case atStart => exact ⟨0, Nat.zero_le _, rfl, rfl⟩
    case round =>
      obtain ⟨j, hj, rfl, rfl⟩ := hrel
      by_cases hlj : j < n
      · have c1 := hc.out w (Below.refl _ _) j hlj
        have hle := placesTo_le U true j
        cases hb : U.getD j false with
        | true =>
          rw [hb] at c1
          have e1 := Lib.hid (show (placesTo U true (j + 1)).length = (placesTo U true j).length + 1 by rw [placesTo_hit (v := true) hb, List.length_append]; rfl)
          generalize (placesTo U true j).length = q at *
          replace hb := Lib.hid hb
          replace hrn := Lib.hid hrn
          go_wp2
          go_round
          case rel => exact ⟨j + 1, hlj, num1 j, by rw [e1.out]; rfl⟩
          case measure => exact meas1 hlj
        | false =>
          rw [hb] at c1
          have e1 := Lib.hid (show (placesTo U true (j + 1)).length = (placesTo U true j).length by rw [placesTo_miss (v := true) hb])
          generalize (placesTo U true j).length = q at *
          replace hb := Lib.hid hb
          replace hrn := Lib.hid hrn
          go_wp2
          go_round
          case rel => exact ⟨j + 1, hlj, num1 j, by rw [e1.out]⟩
          case measure => exact meas1 hlj
      · obtain rfl : n = j := by omega
        rw [hrn]
        have t1 : ((R : Int) == (n : Int)) = false := by rw [beq_eq_false_iff_ne]; omega
        replace hrn := Lib.hid hrn
        clear hj hlj
        go_wp2
        rename World => w1
        go_loopw [9, 10, 11] (fun v9 v10 v11 wr => ∃ j : Nat, j ≤ n ∧ v11 = .int .i64 j ∧ v9 = .int .i64 (wrap64 (dSum A R U n j)) ∧ v10 = .int .i64 (Mx.sg (placesTo U false j).length) ∧ Below w1.heap.size w1 wr) (fun _ _ v _ => n - (intOf v).toNat)
        case atStart => exact ⟨0, Nat.zero_le _, rfl, by first | rfl | rw [dSum_zero, wrap_id (show I64 0 by unfold I64; omega)], rfl, Below.refl _ _⟩
        case round =>
          obtain ⟨j, hj, rfl, rfl, rfl, hbel⟩ := hrel
          by_cases hlj : j < n
          · have c1 := hc.out wr hbel j hlj
            cases hb : U.getD j false with
            | true =>
              rw [hb] at c1
              have hbt : U.getD j true = true := by rw [used_at (by rw [hU.out]; exact hlj)]; exact hb
              have e1 := Lib.hid (dSum_miss (A := A) (row := R) (n := n) hbt)
              have e2 := Lib.hid (sg_places_miss hbt)
              generalize dSum A R U n j = s at *
              generalize (Mx.sg (placesTo U false j).length : Int) = g at *
              replace hb := Lib.hid hb
              replace hbt := Lib.hid hbt
              go_wp2
              go_roundw
              case rel => exact ⟨j + 1, hlj, num1 j, by rw [e1.out], by rw [e2.out], hbel⟩
              case measure => exact meas1 hlj
            | false =>
              rw [hb] at c1
              have hbt : U.getD j true = false := by rw [used_at (by rw [hU.out]; exact hlj)]; exact hb
              have hu1 := (hbel.block u (lt_of_some hu.out)).trans hu.out
              have f1 := frozen_of_row wr u j _ 4 hu1
              have hu2 := bool_set hu1 j true
              have hrow2 := row_far (j := j) (hrow.out.below hbel) hne'.out (.bool true)
              have hpl := (places_erase hlj (by rw [hU.out]; exact Nat.le_refl _) hbt)
              have hlen2 : (placesTo (U.set j true) false n).length = r := by
                rw [hpl.1, List.length_eraseIdx_of_lt]
                · rw [hr.out]; rfl
                · have := hpl.2; exact (List.getElem?_eq_some_iff.1 this).1
              have hcall := ih.out (U.set j true) (wr.setCell ⟨u, j, none⟩ (.bool true)).drew (by rw [List.length_set, hU.out]) hlen2 hrow2 hu2
              have e1 := dSum_hit (A := A) (row := R) hlj (by rw [hU.out]; exact Nat.le_refl _) hbt
              have e2 := Lib.hid (sg_places_hit hbt)
              have e3 := Lib.hid (neg_sg (placesTo U false j).length)
              have e4 := wrap_term (dSum A R U n j) (placesTo U false j).length (A R j) (detL A (R + 1) (placesTo (U.set j true) false n))
              rw [← e1] at e4
              replace e4 := Lib.hid e4
              clear e1
              obtain ⟨gd, od, hbd, cd⟩ := hrow2 (R * n + j) (by rw [sqList_length]; exact sq_index_lt hRn hlj)
              rw [sqList_get A hRn hlj] at cd
              have hback := fun w2 h => below_back (w2 := w2) hu1 hbt h
              replace hpl := Lib.hid hpl
              replace hlen2 := Lib.hid hlen2
              replace hrow2 := Lib.hid hrow2
              replace hback := Lib.hid hback
              replace hu2 := Lib.hid hu2
              replace hu1 := Lib.hid hu1
              replace hb := Lib.hid hb
              replace hbt := Lib.hid hbt
              generalize detL A (R + 1) (placesTo (U.set j true) false n) = D at *
              generalize dSum A R U n j = s at *
              replace hcall := Lib.hid hcall
              have q1 := sq_index_lt hRn hlj
              have hNN : n * n ≤ 6 * 6 := Nat.mul_le_mul hn hn
              have e5 : ((R : Int) * (n : Int)) = ((R * n : Nat) : Int) := by simp
              obtain ⟨p, hp⟩ : ∃ p, p = R * n := ⟨_, rfl⟩
              rw [← hp] at q1 e5 cd
              obtain ⟨N, hN⟩ : ∃ N, N = n * n := ⟨_, rfl⟩
              rw [← hN] at q1 hNN hcall ⊢
              have p1 : p ≤ 36 := by clear e5; omega
              have i1 : (p : Int) + (j : Int) < (N : Int) := by clear e5; omega
              have pw : -9223372036854775808 ≤ (p : Int) ∧ (p : Int) ≤ 9223372036854775807 := by clear e5; omega
              have wI1 : ∀ a b : Int, a = (R : Int) → b = (n : Int) → IntKind.i64.wrap (a * b) = (p : Int) := fun a b ha hb => by
                subst ha; subst hb; rw [IntWalk.i64_left, e5]; exact IntWalk.wrap64_in _ pw
              obtain ⟨Q, hQ⟩ : ∃ Q, Q = p + j := ⟨_, rfl⟩
              have wS1 : IntKind.i64.wrap ((p : Int) + (j : Int)) = (Q : Int) := by clear e5; rw [IntKind.wrap_i64]; omega
              have iQ0 : (0 : Int) ≤ (Q : Int) := by omega
              have iQ1 : (Q : Int) < (N : Int) := by clear e5; omega
              rw [← hQ] at cd
              clear e5 pw i1
              replace hQ := Lib.hid hQ
              replace hp := Lib.hid hp
              replace hN := Lib.hid hN
              subst hbd
              have rD : (wr.setCell ⟨u, j, none⟩ (.bool true)).drew.cell? ⟨gd, od + Q, none⟩ = some (.int .i64 (wrap64 (A R j))) := cd
              have hlu : u < (wr.setCell ⟨u, j, none⟩ (.bool true)).heap.size := by rw [World.size_setCell]; exact lt_of_some hu1.out
              have hjU : j < (U.set j true).length := by rw [List.length_set, hU.out]; exact hlj
              replace hlu := Lib.hid hlu
              replace hjU := Lib.hid hjU
              clear cd
              go_upto_region 16 with fail
              go_region_held3 (fun w' => w'.cell? ⟨gd, od + Q, none⟩ = some (.int .i64 (wrap64 (A R j))))
                (first | assumption | (exact held1 hb8 (by assumption)) | go_keep)
                (first
                  | (go_at_call 51; refine hcall.out.mono ?_; rintro e w8 ⟨rfl, hb8⟩))
              replace hb8 := below_undrew hb8
              have hu8 := (hb8.block u hlu.out).trans hu2.out
              have c8 := bool_cell hu8 hjU.out
              have f8 := frozen_of_row w8 u j _ 4 hu8
              have hbel9 := below_trans hbel (hback.out w8 hb8)
              clear hbel rD hu8 hb8
              go_wp2
              go_roundw
              case rel => exact ⟨j + 1, hlj, num1 j, by rw [← e4.out]; simp only [IntWalk.i64_left], by rw [e2.out]; first | rw [e3.out] | rw [wrap_wrap, e3.out], hbel9⟩
              case measure => exact meas1 hlj
          · obtain rfl : n = j := by omega
            rw [hend.out]
            go_wp2
            go_ret
            exact ⟨rfl, hbel⟩

set_option maxHeartbeats 4000000 in
theorem refDet_any (n : Nat) (A : Nat → Nat → Int) (b : Option Addr) (z : Nat) (w : World) (hn : n ≤ 6) (hrow : Row w b (sqList n A)) :
    Calls Tryd.prog 24 #[.int .i64 (n : Int), .slice b (n * n) z] w (NumPost (wrap64 (Mx.det n A)) w) := by
  have hmk := fun W => run_make_bools n (by omega) W
  have hne : n ≠ 0 → ∀ g o, b = some ⟨g, o, none⟩ → g ≠ w.heap.size := fun h0 g o he => by
    obtain ⟨g', o', he', hc⟩ := hrow 0 (by rw [sqList_length]; exact Nat.mul_pos (by omega) (by omega))
    rw [he'] at he
    cases he
    have := World.block_lt_of_cell? w _ hc
    exact Nat.ne_of_lt this
  have hd := refDeter_any n A b z w.heap.size n hn hne n (List.replicate n false) (w.alloc (.cells (boolCells (List.replicate n false)) 4)) (by simp) (by rw [placesTo_none, List.length_range]) (hrow.alloc _) (heap_alloc_new _ _)
  rw [placesTo_none, Nat.sub_self, detL_all] at hd
  have hb0 := push (start w) (.cells (boolCells (List.replicate n false)) 4)
  replace hd := Lib.hid hd
  clear hne hrow
  go_enter Tryd.func24, Tryd.ntmps24
  go_wp2_with fail
  refine hd.out.mono ?_
  rintro e w1 ⟨rfl, hb⟩
  have hb1 := below_trans hb0 hb
  go_wp2
  go_ret
  exact ⟨rfl, hb1⟩
end Go.Proofs.YtcenhemlgapkeaaDoor
