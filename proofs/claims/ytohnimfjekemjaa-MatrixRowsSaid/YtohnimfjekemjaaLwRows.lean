/- The walk of the law MatrixRows: it returns true at all arrays, numbers and rows. No condition. -/
import Derived.Test.YtohnimfjekemjaaLwSwaps
import Derived.Test.YtohnimfjekemjaaDetWrap
import Derived.RegionTactic
import Derived.BigRegion
namespace Go.Proofs.Ytohnimfjekemjaa
open Go.RowKit

/-- The first k of other numbers in a row's place. -/
def rrF (A : Nat → Nat → Int) (i : Nat) (v : Nat → Int) (k a b : Nat) : Int := if b < k ∧ a = i then v b else A a b
theorem rrF_zero (A : Nat → Nat → Int) (i : Nat) (v : Nat → Int) : rrF A i v 0 = A := by funext a b; exact if_neg (by omega)
theorem rrF_step (A : Nat → Nat → Int) (i : Nat) (v : Nat → Int) (k : Nat) : put (rrF A i v k) i k (v k) = rrF A i v (k + 1) := by
  funext a b
  unfold put rrF
  by_cases e : a = i ∧ b = k
  · obtain ⟨rfl, rfl⟩ := e
    rw [if_pos ⟨rfl, rfl⟩, if_pos ⟨Nat.lt_succ_self _, rfl⟩]
  · rw [if_neg e]
    by_cases h : b < k ∧ a = i
    · rw [if_pos h, if_pos ⟨by omega, h.2⟩]
    · rw [if_neg h, if_neg (by omega)]
theorem sdet_rows {n i : Nat} (d : List Int) (t : Int) (r : Nat → Int) (hi : i < n) :
    sdet n (mkList n (rrF (M.sqA n d) i (fun b => wrap64 (wrap64 (t * M.sqA n d i b) + r b)) n)) = wrap64 (wrap64 (t * sdet n d) + sdet n (mkList n (rrF (M.sqA n d) i r n))) := by
  rw [sdet_mk, sdet_mk]
  unfold sdet
  rw [wrap_add_r, wrap_mul_r, wrap_add_l]
  have e1 : ∀ v, Mx.det n (rrF (M.sqA n d) i v n) = Mx.det n (Mx.updr (M.sqA n d) i v) := fun v => Mx.det_congr fun a b ha hb => by
    unfold rrF Mx.updr
    by_cases h : a = i
    · rw [if_pos ⟨hb, h⟩, if_pos h]
    · rw [if_neg (fun k => h k.2), if_neg h]
  rw [e1, e1]
  have e2 : wrap64 (Mx.det n (Mx.updr (M.sqA n d) i fun b => wrap64 (wrap64 (t * M.sqA n d i b) + r b))) = wrap64 (Mx.det n (Mx.updr (M.sqA n d) i fun b => r b + t * M.sqA n d i b)) := det_wrap n fun a b _ _ => by
    unfold Mx.updr
    split
    · rw [wrap_wrap, wrap_add_l, Int.add_comm]
    · rfl
  rw [e2, Mx.det_lin_row n _ i _ _ t hi, Int.add_comm]
  congr 3
  exact Mx.det_congr fun a b _ _ => by
    unfold Mx.updr
    split
    · rename_i h; subst h; rfl
    · rfl

set_option maxHeartbeats 8000000 in
theorem matrixRows_walk (b0 : Bool) (p0 q0 : Option Addr) (x0 y0 : List Int) (c0 d0 : Nat) (a1 a2 : Int) (p3 : Option Addr) (x3 : List Int) (c3 : Nat) (w : World)
    (r0 : Row w p0 x0) (t0 : Row w q0 y0) (l0 : x0.length ≤ maxLen) (m0 : y0.length ≤ maxLen) (_ : All64 x0) (o0 : All64 y0) (w1 : I64 a1) (w2 : I64 a2) (r3 : Row w p3 x3) (l3 : x3.length ≤ maxLen) (n3 : All64 x3) :
    Calls Try.prog 4 #[arrV b0 p0 x0.length c0 q0 y0.length d0, .int .i64 a1, .int .i64 a2, .slice p3 x3.length c3] w fun e w' => e = .returned (.bool true) ∧ Below w.heap.size w w' := by
  have E := ((((Env.start w).addRow r3).addRow t0).addRow r0).box b0 p0 x0.length c0 q0 y0.length d0
  have hsq := fun w h => isSq_any b0 p0 q0 x0 y0 _ c0 _ d0 w h l0 m0 rfl rfl
  replace hsq := Lib.hid hsq
  cases hq : M.isSq ⟨b0, x0, y0⟩ with
  | false =>
    replace hq := Lib.hid hq
    go_enter Try.func4, Try.ntmps4
    go_wp2_with fail
    refine (fact_any _).mono ?_
    rintro e v1 ⟨rfl, hb⟩
    replace E := E.step hb
    clear hb
    obtain ⟨⟨u0, u1, u2⟩, -, -, -⟩ := E.getBox 0 rfl
    go_wp2_with fail
    refine (hsq.out _ (E.getRow 1 rfl)).mono ?_
    rintro e v2 ⟨rfl, hb⟩
    rw [hq.out]
    replace E := E.step hb
    clear hb u0 u1 u2
    go_wp2
    go_ret
    exact ⟨rfl, E.bel⟩
  | true =>
    obtain ⟨n, hn, hx, hd⟩ := isSq_parts hq
    rw [Arr.mk.injEq] at hx
    obtain ⟨rfl, rfl, -⟩ := hx
    replace hq := Lib.hid hq
    dsimp only at hd
    replace hd := Lib.hid hd
    unfold maxLen at l3
    by_cases hok : 0 ≤ a1 ∧ a1 < n ∧ x3.length = n
    case neg =>
      go_enter Try.func4, Try.ntmps4
      go_wp2_with fail
      refine (fact_any _).mono ?_
      rintro e v1 ⟨rfl, hb⟩
      replace E := E.step hb
      clear hb
      obtain ⟨⟨u0, u1, u2⟩, -, -, -⟩ := E.getBox 0 rfl
      go_wp2_with fail
      refine (hsq.out _ (E.getRow 1 rfl)).mono ?_
      rintro e v2 ⟨rfl, hb⟩
      rw [hq.out]
      replace E := E.step hb
      clear hb u0 u1 u2
      obtain ⟨⟨u0, u1, u2⟩, -, -, -⟩ := E.getBox 0 rfl
      obtain ⟨bs, os, rfl, hc0⟩ := (E.getRow 1 rfl) 0 (by simp)
      simp only [List.getD_cons_zero, Nat.add_zero, List.length_cons, List.length_nil, Nat.zero_add, Nat.reduceAdd] at hc0 u1
      have hbel := E.bel
      clear E
      cases d1 : decide (a1 < 0) with
      | true =>
        clear hok
        go_wp2
        go_ret
        exact ⟨rfl, hbel⟩
      | false =>
      cases d4 : decide ((n : Int) ≤ a1) with
      | true =>
        clear hok
        go_wp2
        go_ret
        exact ⟨rfl, hbel⟩
      | false =>
        have d5 : (((x3.length : Nat) : Int) != (n : Int)) = true := by
          have k1 := of_decide_eq_false d1
          have k4 := of_decide_eq_false d4
          rw [bne_iff_ne]
          intro h
          exact hok ⟨by omega, by omega, by omega⟩
        clear hok
        go_wp2
        go_ret
        exact ⟨rfl, hbel⟩
    obtain ⟨h1, h2, h3⟩ := hok
    obtain ⟨i, rfl⟩ : ∃ i : Nat, a1 = i := ⟨a1.toNat, by omega⟩
    have hi : i < n := by omega
    have d4 : decide ((n : Int) ≤ (i : Int)) = false := decide_eq_false (by omega)
    have d5 : (((x3.length : Nat) : Int) != (n : Int)) = false := by rw [bne_eq_false_iff_eq]; omega
    clear w1 h1 h2
    replace h3 := Lib.hid h3
    go_enter Try.func4, Try.ntmps4
    go_wp2_with fail
    refine (fact_any _).mono ?_
    rintro e v1 ⟨rfl, hb⟩
    replace E := E.step hb
    clear hb
    obtain ⟨⟨u0, u1, u2⟩, -, -, -⟩ := E.getBox 0 rfl
    go_wp2_with fail
    refine (hsq.out _ (E.getRow 1 rfl)).mono ?_
    rintro e v2 ⟨rfl, hb⟩
    rw [hq.out]
    replace E := E.step hb
    clear hb u0 u1 u2
    obtain ⟨⟨u0, u1, u2⟩, -, -, -⟩ := E.getBox 0 rfl
    obtain ⟨bs, os, rfl, hc0⟩ := (E.getRow 1 rfl) 0 (by simp)
    simp only [List.getD_cons_zero, Nat.add_zero, List.length_cons, List.length_nil, Nat.zero_add, Nat.reduceAdd] at hc0 u1
    have hnn := Nat.mul_le_mul hn hn
    have hpos : 0 < y0.length := by rw [hd.out]; exact Nat.mul_pos (by omega) (by omega)
    have hy36 : y0.length ≤ 36 := by rw [hd.out]; exact hnn
    go_wp2_with fail
    refine (joined_any q0 none y0 [] _ 0 d0 0 v2 (E.getRow 2 rfl) (Row.nil _ _) (by simp only [List.length_nil]; omega) rfl rfl).mono ?_
    rintro e v3 ⟨vx, rfl, hox, hb3⟩
    rw [List.append_nil] at hox
    obtain ⟨gx, cx, rfl, ex1, ex2⟩ := own_slice hox hpos
    clear u0 u1 u2 hc0
    have E3 := E.step hb3
    obtain ⟨⟨u0, u1, u2⟩, -, -, -⟩ := E3.getBox 0 rfl
    go_wp2_with fail
    refine (joined_any q0 none y0 [] _ 0 d0 0 v3 (E3.getRow 2 rfl) (Row.nil _ _) (by simp only [List.length_nil]; omega) rfl rfl).mono ?_
    rintro e v4 ⟨vy, rfl, hoy, hb4⟩
    rw [List.append_nil] at hoy
    obtain ⟨gy, cy, rfl, ey1, ey2⟩ := own_slice hoy hpos
    clear u0 u1 u2
    have hox4 := hox.below hb4
    have hbv : Below v2.heap.size v2 v4 := below_trans hb3 hb4
    have ebox := (E.getBox 0 rfl).lt
    clear hox hb3 hb4 E3
    obtain ⟨R, hR⟩ : ∃ R : Nat → Int, R = fun b => x3.getD b 0 := ⟨_, rfl⟩
    have hs3 := Lib.hid (mkList_self hd.out)
    have f1 := Lib.hid (sdet_rows y0 a2 R hi)
    have hA := Lib.hid (fun a b => sqA_i64 (n := n) o0 a b)
    have hgA := Lib.hid (fun a b (ha : a < n) (hb : b < n) => sqA_get y0 ha hb)
    have hRi : ∀ b, I64 (R b) := fun b => by
      rw [hR]
      show I64 (x3.getD b 0)
      rw [List.getD_eq_getElem?_getD]
      cases h : x3[b]? with
      | none => show I64 0; unfold I64; omega
      | some v => exact n3 _ (List.mem_of_getElem? h)
    have hRg : ∀ b, x3.getD b 0 = R b := fun b => by rw [hR]
    obtain ⟨A, hAe⟩ : ∃ A, A = M.sqA n y0 := ⟨_, rfl⟩
    rw [← hAe] at hs3 f1 hA hgA
    obtain ⟨V, hV⟩ : ∃ V : Nat → Int, V = fun b => wrap64 (wrap64 (a2 * A i b) + R b) := ⟨_, rfl⟩
    rw [← hV] at f1
    have hVi : ∀ b, I64 (V b) := fun b => by rw [hV]; exact I64_wrap _
    have hVg : ∀ b, wrap64 (wrap64 (a2 * A i b) + R b) = V b := fun b => by rw [hV]
    obtain ⟨bd, od, rfl, hcd⟩ := (E.getRow 2 rfl) 0 hpos
    have hbd : bd < v2.heap.size := World.block_lt_of_cell? _ _ hcd
    obtain ⟨br, orr, rfl, hcr⟩ := (E.getRow 3 rfl) 0 (by rw [h3.out]; omega)
    have hbr : br < v2.heap.size := World.block_lt_of_cell? _ _ hcr
    clear hcd hcr
    have hsf0 : mkList n (rrF A i V 0) = y0 := by rw [rrF_zero]; exact hs3.out
    have hcf0 : mkList n (rrF A i R 0) = y0 := by rw [rrF_zero]; exact hs3.out
    have hlx := fun k => (mkList_length n (rrF A i V k)).trans hd.out.symm
    have hly := fun k => (mkList_length n (rrF A i R k)).trans hd.out.symm
    obtain ⟨Q, hQ⟩ : ∃ Q, Q = i * n := ⟨_, rfl⟩
    have bQ : ∀ k, k < n → Q + k < y0.length := fun k hk => by rw [hQ, hd.out]; exact sq_index_lt hi hk
    have Q36 : Q ≤ 36 := by have := bQ 0 (by omega); omega
    have wQ : wrap64 ((i : Int) * (n : Int)) = (Q : Int) := by
      have e : ((i : Int) * (n : Int)) = ((i * n : Nat) : Int) := by simp
      rw [e, ← hQ]; exact IntWalk.wrap64_in _ (by omega)
    replace hsf0 := Lib.hid hsf0
    replace hcf0 := Lib.hid hcf0
    replace hlx := Lib.hid hlx
    replace hly := Lib.hid hly
    replace hQ := Lib.hid hQ
    replace hAe := Lib.hid hAe
    replace hox4 := Lib.hid hox4
    replace hoy := Lib.hid hoy
    replace hR := Lib.hid hR
    replace hV := Lib.hid hV
    replace hRi := Lib.hid hRi
    replace hVi := Lib.hid hVi
    replace hRg := Lib.hid hRg
    replace hVg := Lib.hid hVg
    have ne1 : gx ≠ gy := by omega
    have ne2 : bd ≠ gx := by omega
    have ne4 : w.heap.size ≠ gx := by omega
    have ne6 : br ≠ gx := by omega
    have n6 : (n : Int) ≤ 6 := by omega
    obtain ⟨⟨u0, u1, u2⟩, -, -, -⟩ := (E.step hbv).getBox 0 rfl
    obtain hc0 := row_at ((E.step hbv).getRow 1 rfl) (i := 0) (by simp)
    simp only [List.getD_cons_zero, Nat.add_zero, List.length_cons, List.length_nil, Nat.zero_add, Nat.reduceAdd] at hc0 u1
    go_wp2
    go_loopw [14] (fun v wr => ∃ k : Nat, k ≤ n ∧ v = .int .i64 k ∧ Own wr v2.heap.size (.slice (some ⟨gx, 0, none⟩) y0.length cx) (mkList n (rrF A i V k)) ∧ Own wr v3.heap.size (.slice (some ⟨gy, 0, none⟩) y0.length cy) (mkList n (rrF A i R k)) ∧ Below v2.heap.size v2 wr) (fun v _ => n - (intOf v).toNat)
    case atStart => exact ⟨0, Nat.zero_le _, rfl, by rw [hsf0.out]; exact hox4.out, by rw [hcf0.out]; exact hoy.out, hbv⟩
    case round =>
      clear hox4 hoy hbv u0 u1 u2 hc0
      obtain ⟨k, hk, rfl, hox, hoy, hbv⟩ := hrel
      have E5 := E.step hbv
      by_cases hlt : k < n
      · have hbQ := bQ k hlt
        have g2 := hgA.out i k hi hlt
        rw [← hQ.out] at g2
        obtain ⟨⟨u0, u1, u2⟩, -, -, -⟩ := E5.getBox 0 rfl
        have hkr : k < x3.length := by rw [h3.out]; exact hlt
        have cQ := row_at (E5.getRow 2 rfl) (i := Q + k) hbQ
        have cR := row_at (E5.getRow 3 rfl) (i := k) hkr
        rw [g2] at cQ
        rw [hRg.out] at cR
        have cX := own_cell hox (i := Q + k) (by rw [hlx.out]; exact hbQ)
        have fX := own_frozen hox (Q + k)
        have ox5 := own_store hox (i := Q + k) (by rw [hlx.out]; exact hbQ) (V k)
        rw [hQ.out, mkList_set _ hlt, ← hQ.out, rrF_step] at ox5
        have oy5 := own_other hoy ⟨gx, Q + k, none⟩ (.int .i64 (V k)) (by show gy ≠ gx; exact Ne.symm ne1)
        have cR5 := (World.cell?_setCell_far wr ⟨gx, Q + k, none⟩ ⟨br, orr + k, none⟩ (.int .i64 (V k)) (by simpa using Ne.symm ne6)).trans cR
        have cY5 := own_cell oy5 (i := Q + k) (by rw [hly.out]; exact hbQ)
        have fY5 := own_frozen oy5 (Q + k)
        have oy6 := own_store oy5 (i := Q + k) (by rw [hly.out]; exact hbQ) (R k)
        rw [hQ.out, mkList_set _ hlt, ← hQ.out, rrF_step] at oy6
        have ox6 := own_other ox5 ⟨gy, Q + k, none⟩ (.int .i64 (R k)) (by show gx ≠ gy; exact ne1)
        have hb6 := (hbv.setCell (p := ⟨gx, Q + k, none⟩) (by show v2.heap.size ≤ gx; omega) (.int .i64 (V k))).setCell (p := ⟨gy, Q + k, none⟩) (by show v2.heap.size ≤ gy; omega) (.int .i64 (R k))
        have hv := hVg.out k
        have iQ : (Q : Int) + (k : Int) < (y0.length : Int) := by clear wQ; omega
        have iR : (k : Int) < (x3.length : Int) := by clear wQ; omega
        clear hox hoy ox5 oy5 E5 hbv
        replace ox6 := Lib.hid ox6
        replace oy6 := Lib.hid oy6
        clear g2 bQ f1 hsf0 hcf0 hA hgA hs3 hAe hlx hly ebox ex1 ex2 ey1 ey2 hnn hpos hbd hbr hQ hd d4 d5 hR hV hRi hVi hRg hVg h3 ne1 ne2 ne4 ne6
        generalize A i k = x1 at *
        generalize R k = x2 at *
        generalize V k = x3v at *
        go_wp2
        go_region
        go_wp2
        go_roundw
        case rel => exact ⟨k + 1, by clear wQ; omega, by go_num, ox6.out, oy6.out, hb6.drew⟩
        case measure => (clear wQ; simp [intOf]; omega)
      · obtain rfl : k = n := by omega
        have rx := hox.row
        have ry := hoy.row
        have ax : All64 (mkList k (rrF A i V k)) := mkList_i64 fun a b _ _ => by unfold rrF; split; exact hVi.out _; exact hA.out _ _
        have ay : All64 (mkList k (rrF A i R k)) := mkList_i64 fun a b _ _ => by unfold rrF; split; exact hRi.out _; exact hA.out _ _
        have lx : (mkList k (rrF A i V k)).length ≤ maxLen := by rw [hlx.out]; exact m0
        have ly : (mkList k (rrF A i R k)).length ≤ maxLen := by rw [hly.out]; exact m0
        have ex := hlx.out k
        have ey := hly.out k
        have kx := mkList_length k (rrF A i V k)
        have ky := mkList_length k (rrF A i R k)
        have F1 := f1.out
        generalize mkList k (rrF A i V k) = xs at *
        generalize mkList k (rrF A i R k) = ys at *
        have hb9 := E5.bel
        have b0 := (E5.getBox 0 rfl).1
        have rs' := E5.getRow 1 rfl
        have rd' := E5.getRow 2 rfl
        rw [← IntWalk.i64_left, ← IntWalk.i64_left] at F1
        replace F1 := Lib.hid F1
        have hd0 := hd.out
        have hk6 : k ≤ 6 := hn
        clear hox hoy E5 hlx hly bQ hgA hsf0 hcf0 wQ hbv E f1 hs3 hA hAe hQ hsq hq hd hi ne1 ne2 ne4 ne6 d4 d5 hbd hbr ebox ex1 ex2 ey1 ey2 hnn hpos hn hy36 Q36 n6 hR hV hRi hVi hRg hVg h3
        have b1 : Box wr.drew w.heap.size false (some ⟨bs, os, none⟩) 2 c0 (some ⟨bd, od, none⟩) y0.length d0 := b0
        have rx1 : Row wr.drew (some ⟨gx, 0, none⟩) xs := rx
        have ry1 : Row wr.drew (some ⟨gy, 0, none⟩) ys := ry
        have rs1 : Row wr.drew (some ⟨bs, os, none⟩) [(k : Int), (k : Int)] := rs'
        have rd1 : Row wr.drew (some ⟨bd, od, none⟩) y0 := rd'
        have esx := ex.symm
        have esy := ey.symm
        have hb10 : Below w.heap.size w wr.drew := below_drewN hb9 1
        clear rx ry rs' rd' b0 hb9 ex ey hk hlt
        replace esx := Lib.hid esx
        replace esy := Lib.hid esy
        replace kx := Lib.hid kx
        replace ky := Lib.hid ky
        replace hd0 := Lib.hid hd0
        go_wp2_with fail
        go_region_held3 (fun w' => w'.cell? ⟨w.heap.size, 0, none⟩ = some (.bool false) ∧ w'.cell? ⟨w.heap.size, 1, none⟩ = some (.slice (some ⟨bs, os, none⟩) 2 c0) ∧ w'.cell? ⟨w.heap.size, 2, none⟩ = some (.slice (some ⟨bd, od, none⟩) y0.length d0))
          (first | go_keep | (exact held3 hb5 (by assumption)) | (exact held3 hb6 (by assumption)) | (exact held3 hb7 (by assumption)) | (exact held3 hb8 (by assumption)) | (exact held3 hb11 (by assumption)))
          (first
            | (go_at_call_of 21 (⟨gx, 0, none⟩ : Addr); refine (square_any (k : Int) (some ⟨gx, 0, none⟩) y0.length cx _).mono ?_; rintro e w5 ⟨a5, k5, rfl, r5, hb5⟩)
            | (go_at_call_of 21 (⟨gy, 0, none⟩ : Addr); refine (square_any (k : Int) (some ⟨gy, 0, none⟩) y0.length cy _).mono ?_; rintro e w8 ⟨a8, k8, rfl, r8, hb8⟩)
            | (go_at_call_of 20 (⟨gx, 0, none⟩ : Addr); refine (lawDet_any k a5 (some ⟨gx, 0, none⟩) xs 2 k5 y0.length cx _ r5 (rx1.below hb5) lx ax hk6 kx.out rfl esx.out).mono ?_; rintro e w6 ⟨he6, hb6⟩; rw [F1.out] at he6; subst he6)
            | (go_at_call_of 20 (⟨bs, os, none⟩ : Addr); refine (lawDet_any k (some ⟨bs, os, none⟩) (some ⟨bd, od, none⟩) y0 2 c0 y0.length d0 _ ((rs1.below hb5).below hb6) ((rd1.below hb5).below hb6) m0 o0 hk6 hd0.out rfl rfl).mono ?_; rintro e w7 ⟨rfl, hb7⟩)
            | (go_at_call_of 20 (⟨gy, 0, none⟩ : Addr); refine (lawDet_any k a8 (some ⟨gy, 0, none⟩) ys 2 k8 y0.length cy _ r8 ((((ry1.below hb5).below hb6).below hb7).below hb8) ly ay hk6 ky.out rfl esy.out).mono ?_; rintro e w11 ⟨rfl, hb11⟩))
        go_wp2
        go_ret
        exact ⟨rfl, below_trans (below_trans (below_trans (below_trans (below_trans hb10 hb5) hb6) hb7) hb8) hb11⟩

end Go.Proofs.Ytohnimfjekemjaa
