/- The walk of the law MatrixSwaps: it returns true at all arrays and numbers. No condition. -/
import Derived.Test.YtohnimfjekemjaaWkMDet
import Derived.Test.YtohnimfjekemjaaOwnSt
import Derived.Test.YtohnimfjekemjaaSame
import Derived.Deep.RegionHeld3
namespace Go.Proofs.Ytohnimfjekemjaa
open Go.RowKit

/-- The first k of two rows in each other's place. -/
def swF (A : Nat → Nat → Int) (i j k a b : Nat) : Int := if b < k then (if a = i then A j b else if a = j then A i b else A a b) else A a b
theorem swF_zero (A : Nat → Nat → Int) (i j : Nat) : swF A i j 0 = A := by funext a b; exact if_neg (by omega)
theorem swF_step (A : Nat → Nat → Int) {i j : Nat} (hij : i ≠ j) (k : Nat) : put (put (swF A i j k) i k (A j k)) j k (A i k) = swF A i j (k + 1) := by
  funext a b
  unfold put swF
  by_cases e : b = k
  · subst e
    rw [if_pos (Nat.lt_succ_self b), if_neg (Nat.lt_irrefl b)]
    by_cases h1 : a = i
    · subst h1; rw [if_neg (by omega), if_pos ⟨rfl, rfl⟩, if_pos rfl]
    · rw [if_neg h1]
      by_cases h2 : a = j
      · subst h2; rw [if_pos ⟨rfl, rfl⟩, if_pos rfl]
      · rw [if_neg (by omega), if_neg (by omega), if_neg h2]
  · rw [if_neg (by omega), if_neg (by omega)]
    by_cases h : b < k
    · rw [if_pos h, if_pos (show b < k + 1 by omega)]
    · rw [if_neg h, if_neg (show ¬ b < k + 1 by omega)]
/-- The first k of a row in another one's place. -/
def cpF (A : Nat → Nat → Int) (i j k a b : Nat) : Int := if b < k ∧ a = i then A j b else A a b
theorem cpF_zero (A : Nat → Nat → Int) (i j : Nat) : cpF A i j 0 = A := by funext a b; exact if_neg (by omega)
theorem cpF_step (A : Nat → Nat → Int) (i j k : Nat) : put (cpF A i j k) i k (A j k) = cpF A i j (k + 1) := by
  funext a b
  unfold put cpF
  by_cases e : a = i ∧ b = k
  · obtain ⟨rfl, rfl⟩ := e
    rw [if_pos ⟨rfl, rfl⟩, if_pos ⟨Nat.lt_succ_self _, rfl⟩]
  · rw [if_neg e]
    by_cases h : b < k ∧ a = i
    · rw [if_pos h, if_pos ⟨by omega, h.2⟩]
    · rw [if_neg h, if_neg (by omega)]

theorem row_at {w : World} {b o : Nat} {xs : List Int} (h : Row w (some ⟨b, o, none⟩) xs) {i : Nat} (hi : i < xs.length) : w.cell? ⟨b, o + i, none⟩ = some (.int .i64 (xs.getD i 0)) := by
  obtain ⟨b', o', e, hc⟩ := h i hi
  cases e
  exact hc

theorem sdet_mk {n : Nat} (F : Nat → Nat → Int) : sdet n (mkList n F) = wrap64 (Mx.det n F) := by
  unfold sdet
  rw [Mx.det_congr fun i j hi hj => sqA_mk F hi hj]
theorem sdet_swap {n i j : Nat} (d : List Int) (hi : i < n) (hj : j < n) (hij : i ≠ j) : sdet n (mkList n (swF (M.sqA n d) i j n)) = wrap64 (-sdet n d) := by
  rw [sdet_mk]
  unfold sdet
  rw [wrap_neg, ← Mx.det_swap_row n _ i j hi hj hij]
  congr 1
  refine Mx.det_congr fun a b ha hb => ?_
  unfold swF Mx.swpr
  rw [if_pos hb]
theorem sdet_copy {n i j : Nat} (d : List Int) (hi : i < n) (hj : j < n) (hij : i ≠ j) : sdet n (mkList n (cpF (M.sqA n d) i j n)) = 0 := by
  rw [sdet_mk, Mx.det_equal_row n _ i j hi hj hij]
  · exact wrap_zero
  · intro b hb
    unfold cpF
    rw [if_pos ⟨hb, rfl⟩, if_neg (fun h => hij h.2.symm)]

set_option maxHeartbeats 8000000 in
theorem matrixSwaps_walk (b0 : Bool) (p0 q0 : Option Addr) (x0 y0 : List Int) (c0 d0 : Nat) (a1 a2 : Int) (w : World)
    (r0 : Row w p0 x0) (t0 : Row w q0 y0) (l0 : x0.length ≤ maxLen) (m0 : y0.length ≤ maxLen) (_ : All64 x0) (o0 : All64 y0) (w1 : I64 a1) (w2 : I64 a2) :
    Calls Try.prog 3 #[arrV b0 p0 x0.length c0 q0 y0.length d0, .int .i64 a1, .int .i64 a2] w fun e w' => e = .returned (.bool true) ∧ Below w.heap.size w w' := by
  have E := (((Env.start w).addRow t0).addRow r0).box b0 p0 x0.length c0 q0 y0.length d0
  have hsq := fun w h => isSq_any b0 p0 q0 x0 y0 _ c0 _ d0 w h l0 m0 rfl rfl
  replace hsq := Lib.hid hsq
  cases hq : M.isSq ⟨b0, x0, y0⟩ with
  | false =>
    replace hq := Lib.hid hq
    go_enter Try.func3, Try.ntmps3
    go_wp2_with fail
    refine (fact_any _).mono ?_
    rintro e v1 ⟨rfl, hb⟩
    replace E := E.step hb
    clear hb
    obtain ⟨⟨u0, u1, u2⟩, -, -, -⟩ := E.getBox 0 rfl
    go_wp2_with fail
    refine (hsq.out _ (E.getRow 1 rfl)).mono ?_
    rintro e v2 ⟨rfl, hb⟩
    rw [hq.out]
    replace E := E.step hb
    clear hb u0 u1 u2
    go_wp2
    go_ret
    exact ⟨rfl, E.bel⟩
  | true =>
    obtain ⟨n, hn, hx, hd⟩ := isSq_parts hq
    rw [Arr.mk.injEq] at hx
    obtain ⟨rfl, rfl, -⟩ := hx
    replace hq := Lib.hid hq
    dsimp only at hd
    replace hd := Lib.hid hd
    by_cases hok : 0 ≤ a1 ∧ a1 < n ∧ 0 ≤ a2 ∧ a2 < n ∧ a1 ≠ a2
    case neg =>
      go_enter Try.func3, Try.ntmps3
      go_wp2_with fail
      refine (fact_any _).mono ?_
      rintro e v1 ⟨rfl, hb⟩
      replace E := E.step hb
      clear hb
      obtain ⟨⟨u0, u1, u2⟩, -, -, -⟩ := E.getBox 0 rfl
      go_wp2_with fail
      refine (hsq.out _ (E.getRow 1 rfl)).mono ?_
      rintro e v2 ⟨rfl, hb⟩
      rw [hq.out]
      replace E := E.step hb
      clear hb u0 u1 u2
      obtain ⟨⟨u0, u1, u2⟩, -, -, -⟩ := E.getBox 0 rfl
      obtain ⟨bs, os, rfl, hc0⟩ := (E.getRow 1 rfl) 0 (by simp)
      simp only [List.getD_cons_zero, Nat.add_zero, List.length_cons, List.length_nil, Nat.zero_add, Nat.reduceAdd] at hc0 u1
      have hbel := E.bel
      clear E
      cases d1 : decide (a1 < 0) with
      | true =>
        clear hok
        go_wp2
        go_ret
        exact ⟨rfl, hbel⟩
      | false =>
      cases d2 : decide (a2 < 0) with
      | true =>
        clear hok
        go_wp2
        go_ret
        exact ⟨rfl, hbel⟩
      | false =>
      cases d3 : (a1 == a2) with
      | true =>
        clear hok
        go_wp2
        go_ret
        exact ⟨rfl, hbel⟩
      | false =>
      cases d4 : decide ((n : Int) ≤ a1) with
      | true =>
        clear hok
        go_wp2
        go_ret
        exact ⟨rfl, hbel⟩
      | false =>
        have d5 : decide ((n : Int) ≤ a2) = true := by
          have k1 := of_decide_eq_false d1
          have k2 := of_decide_eq_false d2
          have k4 := of_decide_eq_false d4
          rw [beq_eq_false_iff_ne] at d3
          exact decide_eq_true (by omega)
        clear hok
        go_wp2
        go_ret
        exact ⟨rfl, hbel⟩
    obtain ⟨h1, h2, h3, h4, h5⟩ := hok
    obtain ⟨i, rfl⟩ : ∃ i : Nat, a1 = i := ⟨a1.toNat, by omega⟩
    obtain ⟨j, rfl⟩ : ∃ j : Nat, a2 = j := ⟨a2.toNat, by omega⟩
    have hi : i < n := by omega
    have hj : j < n := by omega
    have hij : i ≠ j := by omega
    have d3 : ((i : Int) == (j : Int)) = false := by rw [beq_eq_false_iff_ne]; omega
    have d4 : decide ((n : Int) ≤ (i : Int)) = false := decide_eq_false (by omega)
    have d5 : decide ((n : Int) ≤ (j : Int)) = false := decide_eq_false (by omega)
    clear w1 w2 h1 h2 h3 h4 h5
    go_enter Try.func3, Try.ntmps3
    go_wp2_with fail
    refine (fact_any _).mono ?_
    rintro e v1 ⟨rfl, hb⟩
    replace E := E.step hb
    clear hb
    obtain ⟨⟨u0, u1, u2⟩, -, -, -⟩ := E.getBox 0 rfl
    go_wp2_with fail
    refine (hsq.out _ (E.getRow 1 rfl)).mono ?_
    rintro e v2 ⟨rfl, hb⟩
    rw [hq.out]
    replace E := E.step hb
    clear hb u0 u1 u2
    obtain ⟨⟨u0, u1, u2⟩, -, -, -⟩ := E.getBox 0 rfl
    obtain ⟨bs, os, rfl, hc0⟩ := (E.getRow 1 rfl) 0 (by simp)
    simp only [List.getD_cons_zero, Nat.add_zero, List.length_cons, List.length_nil, Nat.zero_add, Nat.reduceAdd] at hc0 u1
    have hnn := Nat.mul_le_mul hn hn
    have hpos : 0 < y0.length := by rw [hd.out]; exact Nat.mul_pos (by omega) (by omega)
    have hy36 : y0.length ≤ 36 := by rw [hd.out]; exact hnn
    go_wp2_with fail
    refine (joined_any q0 none y0 [] _ 0 d0 0 v2 (E.getRow 2 rfl) (Row.nil _ _) (by simp only [List.length_nil]; omega) rfl rfl).mono ?_
    rintro e v3 ⟨vx, rfl, hox, hb3⟩
    rw [List.append_nil] at hox
    obtain ⟨gx, cx, rfl, ex1, ex2⟩ := own_slice hox hpos
    clear u0 u1 u2 hc0
    have E3 := E.step hb3
    obtain ⟨⟨u0, u1, u2⟩, -, -, -⟩ := E3.getBox 0 rfl
    go_wp2_with fail
    refine (joined_any q0 none y0 [] _ 0 d0 0 v3 (E3.getRow 2 rfl) (Row.nil _ _) (by simp only [List.length_nil]; omega) rfl rfl).mono ?_
    rintro e v4 ⟨vy, rfl, hoy, hb4⟩
    rw [List.append_nil] at hoy
    obtain ⟨gy, cy, rfl, ey1, ey2⟩ := own_slice hoy hpos
    clear u0 u1 u2
    have hox4 := hox.below hb4
    have hbv : Below v2.heap.size v2 v4 := below_trans hb3 hb4
    have ebox := (E.getBox 0 rfl).lt
    clear hox hb3 hb4 E3
    have hs3 := Lib.hid (mkList_self hd.out)
    have f1 := Lib.hid (sdet_swap y0 hi hj hij)
    have f2 := Lib.hid (sdet_copy y0 hi hj hij)
    have hA := Lib.hid (fun a b => sqA_i64 (n := n) o0 a b)
    have hgA := Lib.hid (fun a b (ha : a < n) (hb : b < n) => sqA_get y0 ha hb)
    obtain ⟨A, hAe⟩ : ∃ A, A = M.sqA n y0 := ⟨_, rfl⟩
    rw [← hAe] at hs3 f1 f2 hA hgA
    obtain ⟨bd, od, rfl, hcd⟩ := (E.getRow 2 rfl) 0 hpos
    have hbd : bd < v2.heap.size := World.block_lt_of_cell? _ _ hcd
    clear hcd
    have hsf0 : mkList n (swF A i j 0) = y0 := by rw [swF_zero]; exact hs3.out
    have hcf0 : mkList n (cpF A i j 0) = y0 := by rw [cpF_zero]; exact hs3.out
    have hlx := fun k => (mkList_length n (swF A i j k)).trans hd.out.symm
    have hly := fun k => (mkList_length n (cpF A i j k)).trans hd.out.symm
    obtain ⟨P, hP⟩ : ∃ P, P = j * n := ⟨_, rfl⟩
    obtain ⟨Q, hQ⟩ : ∃ Q, Q = i * n := ⟨_, rfl⟩
    have bP : ∀ k, k < n → P + k < y0.length := fun k hk => by rw [hP, hd.out]; exact sq_index_lt hj hk
    have bQ : ∀ k, k < n → Q + k < y0.length := fun k hk => by rw [hQ, hd.out]; exact sq_index_lt hi hk
    have P36 : P ≤ 36 := by have := bP 0 (by omega); omega
    have Q36 : Q ≤ 36 := by have := bQ 0 (by omega); omega
    have wP : wrap64 ((j : Int) * (n : Int)) = (P : Int) := by
      have e : ((j : Int) * (n : Int)) = ((j * n : Nat) : Int) := by simp
      rw [e, ← hP]; exact IntWalk.wrap64_in _ (by omega)
    have wQ : wrap64 ((i : Int) * (n : Int)) = (Q : Int) := by
      have e : ((i : Int) * (n : Int)) = ((i * n : Nat) : Int) := by simp
      rw [e, ← hQ]; exact IntWalk.wrap64_in _ (by omega)
    replace hsf0 := Lib.hid hsf0
    replace hcf0 := Lib.hid hcf0
    replace hlx := Lib.hid hlx
    replace hly := Lib.hid hly
    replace hP := Lib.hid hP
    replace hQ := Lib.hid hQ
    replace hAe := Lib.hid hAe
    replace hox4 := Lib.hid hox4
    replace hoy := Lib.hid hoy
    have ne1 : gx ≠ gy := by omega
    have ne2 : bd ≠ gx := by omega
    have ne3 : bd ≠ gy := by omega
    have ne4 : w.heap.size ≠ gx := by omega
    have ne5 : w.heap.size ≠ gy := by omega
    have n6 : (n : Int) ≤ 6 := by omega
    obtain ⟨⟨u0, u1, u2⟩, -, -, -⟩ := (E.step hbv).getBox 0 rfl
    obtain hc0 := row_at ((E.step hbv).getRow 1 rfl) (i := 0) (by simp)
    simp only [List.getD_cons_zero, Nat.add_zero, List.length_cons, List.length_nil, Nat.zero_add, Nat.reduceAdd] at hc0 u1
    go_wp2
    go_loopw [12] (fun v wr => ∃ k : Nat, k ≤ n ∧ v = .int .i64 k ∧ Own wr v2.heap.size (.slice (some ⟨gx, 0, none⟩) y0.length cx) (mkList n (swF A i j k)) ∧ Own wr v3.heap.size (.slice (some ⟨gy, 0, none⟩) y0.length cy) (mkList n (cpF A i j k)) ∧ Below v2.heap.size v2 wr) (fun v _ => n - (intOf v).toNat)
    case atStart => exact ⟨0, Nat.zero_le _, rfl, by rw [hsf0.out]; exact hox4.out, by rw [hcf0.out]; exact hoy.out, hbv⟩
    case round =>
      clear hox4 hoy hbv u0 u1 u2 hc0
      obtain ⟨k, hk, rfl, hox, hoy, hbv⟩ := hrel
      have E5 := E.step hbv
      by_cases hlt : k < n
      · have hbP := bP k hlt
        have hbQ := bQ k hlt
        have g1 := hgA.out j k hj hlt
        have g2 := hgA.out i k hi hlt
        rw [← hP.out] at g1
        rw [← hQ.out] at g2
        obtain ⟨⟨u0, u1, u2⟩, -, -, -⟩ := E5.getBox 0 rfl
        have cP := row_at (E5.getRow 2 rfl) (i := P + k) hbP
        have cQ := row_at (E5.getRow 2 rfl) (i := Q + k) hbQ
        rw [g1] at cP
        rw [g2] at cQ
        have cX := own_cell hox (i := Q + k) (by rw [hlx.out]; exact hbQ)
        have fX := own_frozen hox (Q + k)
        -- the first store
        have ox5 := own_store hox (i := Q + k) (by rw [hlx.out]; exact hbQ) (A j k)
        rw [hQ.out, mkList_set _ hlt, ← hQ.out] at ox5
        have u25 := (World.cell?_setCell_far wr ⟨gx, Q + k, none⟩ ⟨w.heap.size, 2, none⟩ (.int .i64 (A j k)) (by simpa using Ne.symm ne4)).trans u2
        have cQ5 := (World.cell?_setCell_far wr ⟨gx, Q + k, none⟩ ⟨bd, od + (Q + k), none⟩ (.int .i64 (A j k)) (by simpa using Ne.symm ne2)).trans cQ
        have cP5 := (World.cell?_setCell_far wr ⟨gx, Q + k, none⟩ ⟨bd, od + (P + k), none⟩ (.int .i64 (A j k)) (by simpa using Ne.symm ne2)).trans cP
        have cX5 := own_cell ox5 (i := P + k) (by rw [mkList_length, ← hd.out]; exact hbP)
        have fX5 := own_frozen ox5 (P + k)
        have oy5 := own_other hoy ⟨gx, Q + k, none⟩ (.int .i64 (A j k)) (by show gy ≠ gx; exact Ne.symm ne1)
        -- the second store
        have ox6 := own_store ox5 (i := P + k) (by rw [mkList_length, ← hd.out]; exact hbP) (A i k)
        rw [hP.out, mkList_set _ hlt, ← hP.out, swF_step A hij] at ox6
        have oy6 := own_other oy5 ⟨gx, P + k, none⟩ (.int .i64 (A i k)) (by show gy ≠ gx; exact Ne.symm ne1)
        have u26 := (World.cell?_setCell_far _ ⟨gx, P + k, none⟩ ⟨w.heap.size, 2, none⟩ (.int .i64 (A i k)) (by simpa using Ne.symm ne4)).trans u25
        have cP6 := (World.cell?_setCell_far _ ⟨gx, P + k, none⟩ ⟨bd, od + (P + k), none⟩ (.int .i64 (A i k)) (by simpa using Ne.symm ne2)).trans cP5
        have cY6 := own_cell oy6 (i := Q + k) (by rw [hly.out]; exact hbQ)
        have fY6 := own_frozen oy6 (Q + k)
        -- the third store
        have oy7 := own_store oy6 (i := Q + k) (by rw [hly.out]; exact hbQ) (A j k)
        rw [hQ.out, mkList_set _ hlt, ← hQ.out, cpF_step] at oy7
        have ox7 := own_other ox6 ⟨gy, Q + k, none⟩ (.int .i64 (A j k)) (by show gx ≠ gy; exact ne1)
        have hb7 := ((hbv.setCell (p := ⟨gx, Q + k, none⟩) (by show v2.heap.size ≤ gx; omega) (.int .i64 (A j k))).setCell (p := ⟨gx, P + k, none⟩) (by show v2.heap.size ≤ gx; omega) (.int .i64 (A i k))).setCell (p := ⟨gy, Q + k, none⟩) (by show v2.heap.size ≤ gy; omega) (.int .i64 (A j k))
        have iP : (P : Int) + (k : Int) < (y0.length : Int) := by clear wP wQ; omega
        have iQ : (Q : Int) + (k : Int) < (y0.length : Int) := by clear wP wQ; omega
        clear hox hoy ox5 ox6 oy5 oy6 E5 hbv cQ cP5
        replace ox7 := Lib.hid ox7
        replace oy7 := Lib.hid oy7
        clear g1 g2 bP bQ f1 f2 hsf0 hcf0 hA hgA hs3 hAe hlx hly ebox ex1 ex2 ey1 ey2 hnn hpos hij hbd hP hQ hd d3 d4 d5
        generalize A j k = x1 at *
        generalize A i k = x2 at *
        go_wp2
        go_roundw
        case rel => exact ⟨k + 1, by clear wP wQ; omega, by go_num, ox7.out, oy7.out, hb7⟩
        case measure => (clear wP wQ; simp [intOf]; omega)
      · obtain rfl : k = n := by omega
        have rx := hox.row
        have ry := hoy.row
        have ax : All64 (mkList k (swF A i j k)) := mkList_i64 fun a b _ _ => by unfold swF; split <;> (try split) <;> (try split) <;> exact hA.out _ _
        have ay : All64 (mkList k (cpF A i j k)) := mkList_i64 fun a b _ _ => by unfold cpF; split <;> exact hA.out _ _
        have lx : (mkList k (swF A i j k)).length ≤ maxLen := by rw [hlx.out]; exact m0
        have ly : (mkList k (cpF A i j k)).length ≤ maxLen := by rw [hly.out]; exact m0
        have ex := hlx.out k
        have ey := hly.out k
        have kx := mkList_length k (swF A i j k)
        have ky := mkList_length k (cpF A i j k)
        have F1 := f1.out
        have F2 := f2.out
        generalize mkList k (swF A i j k) = xs at *
        generalize mkList k (cpF A i j k) = ys at *
        have hb9 := E5.bel
        have b0 := (E5.getBox 0 rfl).1
        have rs' := E5.getRow 1 rfl
        have rd' := E5.getRow 2 rfl
        have F1' : sdet k xs = IntKind.i64.wrap (-sdet k y0) := by rw [F1, IntWalk.i64_left]
        replace F1 := Lib.hid F1'
        clear F1'
        replace F2 := Lib.hid F2
        have hd0 := hd.out
        have hk6 : k ≤ 6 := hn
        clear hox hoy E5 hlx hly bP bQ hgA hsf0 hcf0 wP wQ hbv E f1 f2 hs3 hA hAe hP hQ hsq hq hd hij hi hj ne1 ne2 ne3 ne4 ne5 d3 d4 d5 hbd ebox ex1 ex2 ey1 ey2 hnn hpos hn hy36 P36 Q36 n6
        have b1 : Box wr.drew w.heap.size false (some ⟨bs, os, none⟩) 2 c0 (some ⟨bd, od, none⟩) y0.length d0 := b0
        have rx1 : Row wr.drew (some ⟨gx, 0, none⟩) xs := rx
        have ry1 : Row wr.drew (some ⟨gy, 0, none⟩) ys := ry
        have rs1 : Row wr.drew (some ⟨bs, os, none⟩) [(k : Int), (k : Int)] := rs'
        have rd1 : Row wr.drew (some ⟨bd, od, none⟩) y0 := rd'
        have esx := ex.symm
        have esy := ey.symm
        have hb10 : Below w.heap.size w wr.drew := below_drewN hb9 1
        clear rx ry rs' rd' b0 hb9 ex ey hk hlt
        replace esx := Lib.hid esx
        replace esy := Lib.hid esy
        replace kx := Lib.hid kx
        replace ky := Lib.hid ky
        replace hd0 := Lib.hid hd0
        go_wp2_with fail
        go_region_held3 (fun w' => w'.cell? ⟨w.heap.size, 0, none⟩ = some (.bool false) ∧ w'.cell? ⟨w.heap.size, 1, none⟩ = some (.slice (some ⟨bs, os, none⟩) 2 c0) ∧ w'.cell? ⟨w.heap.size, 2, none⟩ = some (.slice (some ⟨bd, od, none⟩) y0.length d0))
          (first | go_keep | (exact held3 hb5 (by assumption)) | (exact held3 hb6 (by assumption)) | (exact held3 hb7 (by assumption)) | (exact held3 hb8 (by assumption)) | (exact held3 hb11 (by assumption)))
          (first
            | (go_at_call_of 21 (⟨gx, 0, none⟩ : Addr); refine (square_any (k : Int) (some ⟨gx, 0, none⟩) y0.length cx _).mono ?_; rintro e w5 ⟨a5, k5, rfl, r5, hb5⟩)
            | (go_at_call_of 21 (⟨gy, 0, none⟩ : Addr); refine (square_any (k : Int) (some ⟨gy, 0, none⟩) y0.length cy _).mono ?_; rintro e w8 ⟨a8, k8, rfl, r8, hb8⟩)
            | (go_at_call_of 20 (⟨gx, 0, none⟩ : Addr); refine (lawDet_any k a5 (some ⟨gx, 0, none⟩) xs 2 k5 y0.length cx _ r5 (rx1.below hb5) lx ax hk6 kx.out rfl esx.out).mono ?_; rintro e w6 ⟨he6, hb6⟩; rw [F1.out] at he6; subst he6)
            | (go_at_call_of 20 (⟨bs, os, none⟩ : Addr); refine (lawDet_any k (some ⟨bs, os, none⟩) (some ⟨bd, od, none⟩) y0 2 c0 y0.length d0 _ ((rs1.below hb5).below hb6) ((rd1.below hb5).below hb6) m0 o0 hk6 hd0.out rfl rfl).mono ?_; rintro e w7 ⟨rfl, hb7⟩)
            | (go_at_call_of 20 (⟨gy, 0, none⟩ : Addr); refine (lawDet_any k a8 (some ⟨gy, 0, none⟩) ys 2 k8 y0.length cy _ r8 ((((ry1.below hb5).below hb6).below hb7).below hb8) ly ay hk6 ky.out rfl esy.out).mono ?_; rintro e w11 ⟨he11, hb11⟩; rw [F2.out] at he11; subst he11))
        go_wp2
        go_ret
        exact ⟨rfl, below_trans (below_trans (below_trans (below_trans (below_trans hb10 hb5) hb6) hb7) hb8) hb11⟩

end Go.Proofs.Ytohnimfjekemjaa
