/- The walk of the law ReachNear: it returns true at all arrays and numbers. Condition: the library's table is laid. -/
import Derived.Test.YtiebknfmmanbiaaDoorWkChain
import Derived.Test.YtiebknfmmanbiaaDoorWkFar
import Derived.Test.YtiebknfmmanbiaaDoorLwCloses
namespace Go.Proofs.YtiebknfmmanbiaaDoor
open Go.RowKit

theorem farV {n : Nat} {F : Nat → Nat → Bool} {o j : Nat} (hj : j < n) : (Re.lev n F o j < n ∧ (farUp n F o n).getD j 0 = (Re.lev n F o j : Int)) ∨ (¬ Re.lev n F o j < n ∧ (farUp n F o n).getD j 0 = -1) := by
  rw [farUp_get hj]
  by_cases h : Re.lev n F o j < n
  · rw [if_pos ⟨h, h⟩]; exact .inl ⟨h, rfl⟩
  · rw [if_neg fun k => h k.1]; exact .inr ⟨h, rfl⟩
theorem far_range {n : Nat} {F : Nat → Nat → Bool} {o j : Nat} (hj : j < n) : -1 ≤ (farUp n F o n).getD j 0 ∧ (farUp n F o n).getD j 0 < (n : Int) := by
  rcases farV (F := F) (o := o) hj with ⟨h, e⟩ | ⟨h, e⟩ <;> rw [e] <;> omega
theorem far_zero {n : Nat} {F : Nat → Nat → Bool} {o j : Nat} (ho : o < n) (hj : j < n) : (farUp n F o n).getD j 0 = 0 ↔ j = o := by
  rw [← Re.lev_zero (E := F) ho hj]
  rcases farV (F := F) (o := o) hj with ⟨h, e⟩ | ⟨h, e⟩ <;> rw [e] <;> omega
theorem far_pos {n : Nat} {F : Nat → Nat → Bool} {o j : Nat} (ho : o < n) (hj : j < n) (hne : j ≠ o) : 0 < (farUp n F o n).getD j 0 ↔ Re.clo n F o j = true := by
  rw [← Re.lvl_clo ho hj hne]
  have hz := Re.lev_zero (E := F) ho hj
  rcases farV (F := F) (o := o) hj with ⟨h, e⟩ | ⟨h, e⟩ <;> rw [e]
  · refine ⟨fun _ => ⟨Re.lev n F o j, (Re.lvl_iff ho hj _).2 ⟨Nat.le_refl _, h⟩⟩, fun _ => ?_⟩
    have : Re.lev n F o j ≠ 0 := fun k => hne (hz.1 k)
    omega
  · refine ⟨fun k => by omega, fun ⟨k, hk⟩ => ?_⟩
    exact absurd ((Re.lvl_iff ho hj k).1 hk).2 h
theorem far_step {n : Nat} {F : Nat → Nat → Bool} {o i j : Nat} (ho : o < n) (hi : i < n) (hj : j < n) (he : F i j = true) (h0 : 0 ≤ (farUp n F o n).getD i 0) : 0 ≤ (farUp n F o n).getD j 0 ∧ (farUp n F o n).getD j 0 ≤ (farUp n F o n).getD i 0 + 1 := by
  rcases farV (F := F) (o := o) hi with ⟨h, e⟩ | ⟨h, e⟩
  · have := Re.lev_step ho hi hj h he
    rcases farV (F := F) (o := o) hj with ⟨h2, e2⟩ | ⟨h2, e2⟩
    · rw [e, e2]; omega
    · exact absurd this.2 h2
  · rw [e] at h0; omega
/-- Has a nearer one that leads to j been met? -/
def ahUp (F : Nat → Nat → Bool) (D : List Int) (j m : Nat) : Bool := decide (D.getD j 0 ≤ 0) || (List.range m).any fun i => F i j && decide (0 ≤ D.getD i 0) && (D.getD j 0 == D.getD i 0 + 1)
theorem ah_zero (F : Nat → Nat → Bool) (D : List Int) (j : Nat) : ahUp F D j 0 = decide (D.getD j 0 ≤ 0) := by simp [ahUp]
theorem ah_succ (F : Nat → Nat → Bool) (D : List Int) (j m : Nat) : ahUp F D j (m + 1) = (ahUp F D j m || (F m j && decide (0 ≤ D.getD m 0) && (D.getD j 0 == D.getD m 0 + 1))) := by
  unfold ahUp; rw [List.range_succ, List.any_append]; simp [Bool.or_assoc]
theorem ah_all {n : Nat} {F : Nat → Nat → Bool} {o j : Nat} (ho : o < n) (hj : j < n) : ahUp F (farUp n F o n) j n = true := by
  unfold ahUp
  rw [Bool.or_eq_true]
  by_cases h0 : (farUp n F o n).getD j 0 ≤ 0
  · exact .inl (decide_eq_true h0)
  · refine .inr ?_
    rcases farV (F := F) (o := o) hj with ⟨h, e⟩ | ⟨h, e⟩
    · obtain ⟨i, hi, h1, h2⟩ := Re.lev_pred (E := F) ho hj h (by omega)
      rw [List.any_eq_true]
      refine ⟨i, List.mem_range.2 hi, ?_⟩
      rcases farV (F := F) (o := o) hi with ⟨h3, e3⟩ | ⟨h3, e3⟩
      · rw [h1, e, e3, decide_eq_true (by omega), Bool.true_and, Bool.true_and, beq_iff_eq]; omega
      · omega
    · omega

set_option maxRecDepth 20000 in
set_option maxHeartbeats 16000000 in
theorem reachNear_walk (b0 : Bool) (p0 q0 : Option Addr) (x0 y0 : List Int) (c0 d0 : Nat) (a1 : Int) (w : World) (r0 : Row w p0 x0) (s0 : Row w q0 y0) (l0 : x0.length ≤ maxLen) (m0 : y0.length ≤ maxLen) (n0 : All64 x0) (o0 : All64 y0) (w1 : I64 a1) (hg : Tab32 w) :
    Calls Tryd.prog 4 #[arrV b0 p0 x0.length c0 q0 y0.length d0, .int .i64 a1] w fun e w' => e = .returned (.bool true) ∧ Below w.heap.size w w' := by
  have E := (((Env.start w).addRow s0).addRow r0).box b0 p0 x0.length c0 q0 y0.length d0
  have hclose := fun w h1 h2 => close_any b0 p0 q0 x0 y0 _ c0 _ d0 w h1 h2 l0 m0 rfl rfl
  have hfar := fun w h1 h2 h3 => far_any a1 b0 p0 q0 x0 y0 _ c0 _ d0 w h1 h2 l0 m0 rfl rfl h3
  clear n0 o0 w1
  replace hg := Lib.hid hg
  have herr : ∀ e0, M.far ⟨b0, x0, y0⟩ a1 = .error e0 → Calls Tryd.prog 4 #[arrV b0 p0 x0.length c0 q0 y0.length d0, .int .i64 a1] w fun e w' => e = .returned (.bool true) ∧ Below w.heap.size w w' := by
    intro e0 hr
    replace hr := Lib.hid hr
    replace hclose := Lib.hid hclose
    replace hfar := Lib.hid hfar
    clear r0 s0
    go_enter Tryd.func4, Tryd.ntmps4
    go_wp2_with fail
    refine (chain_any _).mono ?_
    rintro e w1 ⟨rfl, hb⟩
    replace E := E.step hb
    clear hb
    obtain ⟨⟨u0, u1, u2⟩, -, -, -⟩ := E.getBox 0 rfl
    go_wp2_with fail
    refine (hfar.out _ (E.getRow 1 rfl) (E.getRow 2 rfl) (hg.out.below E.bel)).mono ?_
    intro e w2 hp
    obtain rfl := hp.1 _ hr.out
    replace E := E.step hp.2.2
    clear hp u0 u1 u2
    have hbel := E.bel
    clear E
    go_wp2
    go_ret
    exact ⟨rfl, hbel⟩
  by_cases hf : M.relFault ⟨b0, x0, y0⟩ = 0
  case neg => exact herr _ (if_neg hf)
  by_cases ho : a1 < 0 ∨ (M.relN ⟨b0, x0, y0⟩ : Int) ≤ a1
  case pos => exact herr 5 ((if_pos hf).trans (if_pos ho))
  have hr2 : M.far ⟨b0, x0, y0⟩ a1 = .ok _ := (if_pos hf).trans (if_neg ho)
  clear herr
  obtain ⟨n, hn, hb0, hx0, hD, hN, -, -⟩ := rel_parts hf
  dsimp only at hb0 hx0 hD
  subst hb0
  subst hx0
  rw [hN] at ho hr2
  obtain ⟨O, rfl⟩ : ∃ O : Nat, a1 = O := ⟨a1.toNat, by omega⟩
  rw [Int.toNat_natCast] at hr2
  have hO : O < n := by omega
  clear ho
  have hr : M.close ⟨false, [(n : Int), (n : Int)], y0⟩ = .ok ⟨false, [(n : Int), (n : Int)], relCells n (Re.clo n (M.relE ⟨false, [(n : Int), (n : Int)], y0⟩))⟩ := if_pos hf
  have hF := fun i j (hi : i < n) (hj : j < n) => (relE_in (ch := false) (d := y0) hi hj).symm
  generalize M.relE ⟨false, [(n : Int), (n : Int)], y0⟩ = F at *
  have hXl := relCells_length n (Re.clo n F)
  have hXg := fun (i j : Nat) (hi : i < n) (hj : j < n) => relCells_get (Re.clo n F) hi hj
  generalize relCells n (Re.clo n F) = X at *
  have hDl := farUp_length n F O n
  have d1 := fun j (hj : j < n) => far_range (F := F) (o := O) hj
  have d2 := fun j (hj : j < n) => far_zero (F := F) hO hj
  have d3 := fun j (hj : j < n) => far_pos (F := F) hO hj
  have d4 := fun i j (hi : i < n) (hj : j < n) => far_step (F := F) hO hi hj
  have d5 := fun j (hj : j < n) => ah_all (F := F) hO hj
  generalize farUp n F O n = D at *
  have hnn : n * n ≤ 24 * 24 := Nat.mul_le_mul hn hn
  obtain ⟨N, hNN⟩ : ∃ N, N = n * n := ⟨_, rfl⟩
  rw [← hNN] at hD hXl hnn
  have wN' : ∀ m : Nat, m = n → wrap64 ((m : Int) * (m : Int)) = (N : Int) := by
    rintro m rfl
    have : ((m : Int) * (m : Int)) = ((m * m : Nat) : Int) := by simp
    rw [this, ← hNN]; exact IntWalk.wrap64_in _ (by omega)
  have N1 : N ≤ 576 := hnn
  have lX : (((X.length : Nat) : Int) != (N : Int)) = false := by rw [bne_eq_false_iff_eq, hXl]
  have lC : ((n : Int) != (n : Int)) = false := by rw [bne_eq_false_iff_eq]
  have k0 : decide ((O : Int) < 0) = false := decide_eq_false (by omega)
  have k1 : decide ((O : Int) ≥ (n : Int)) = false := decide_eq_false (by omega)
  have k2' : decide (n ≤ O) = false := decide_eq_false (by omega)
  replace hclose := Lib.hid hclose
  replace hfar := Lib.hid hfar
  replace hr := Lib.hid hr
  replace hr2 := Lib.hid hr2
  replace hf := Lib.hid hf
  replace hD := Lib.hid hD
  replace hF := Lib.hid hF
  replace hXl := Lib.hid hXl
  replace hXg := Lib.hid hXg
  replace hNN := Lib.hid hNN
  replace hN := Lib.hid hN
  replace wN' := Lib.hid wN'
  replace hDl := Lib.hid hDl
  replace d1 := Lib.hid d1
  replace d2 := Lib.hid d2
  replace d3 := Lib.hid d3
  replace d4 := Lib.hid d4
  replace d5 := Lib.hid d5
  clear hnn r0 s0
  go_enter Tryd.func4, Tryd.ntmps4
  go_wp2_with fail
  refine (chain_any _).mono ?_
  rintro e w1 ⟨rfl, hb⟩
  replace E := E.step hb
  clear hb
  obtain ⟨⟨u0, u1, u2⟩, -, -, -⟩ := E.getBox 0 rfl
  go_wp2_with fail
  refine (hfar.out _ (E.getRow 1 rfl) (E.getRow 2 rfl) (hg.out.below E.bel)).mono ?_
  intro e w2 hp
  obtain ⟨a2, k2, rfl, q2, hb⟩ := hp.is_ok hr2.out
  replace E := (E.step hb).addRow q2
  rw [hDl.out]
  clear hp u0 u1 u2 hb q2
  obtain ⟨⟨u0, u1, u2⟩, -, -, -⟩ := E.getBox 1 rfl
  go_wp2_with fail
  refine (hclose.out _ (E.getRow 2 rfl) (E.getRow 3 rfl)).mono ?_
  intro e w3 hp
  obtain ⟨a3, k3, e3, f3, rfl, ra, rb, hb⟩ := hp.is_ok hr.out
  clear hp u0 u1 u2
  dsimp only [List.length_cons, List.length_nil, Nat.reduceAdd] at ra rb ⊢
  replace E := (((E.step hb).addRow rb).addRow ra).box false a3 2 k3 e3 X.length f3
  clear hb ra rb
  obtain ⟨⟨u0, u1, u2⟩, -, -, -⟩ := E.getBox 4 rfl
  obtain ⟨⟨v0, v1, v2⟩, -, -, -⟩ := E.getBox 0 rfl
  obtain ⟨bs, os, rfl, hc0⟩ := (E.getRow 5 rfl) 0 (by simp)
  simp only [List.getD_cons_zero, Nat.add_zero] at hc0
  dsimp only [List.length_cons, List.length_nil, Nat.reduceAdd] at u1
  have rC := E.getRow 3 rfl
  have rX := E.getRow 2 rfl
  have rY := E.getRow 6 rfl
  have hbel := E.bel
  replace E := Lib.hid E
  obtain ⟨w4, hw4⟩ : ∃ w4 : World, w4 = w3.alloc (.cells #[.bool false, .slice a3 2 k3, .slice e3 X.length f3] 24) := ⟨_, rfl⟩
  rw [← hw4] at rC rX rY hbel u0 u1 u2 hc0 v0 v1 v2
  have hw4' := Lib.hid hw4
  have wN2 := wN'.out
  replace rX := Lib.hid rX
  replace rC := Lib.hid rC
  replace rY := Lib.hid rY
  replace hbel := Lib.hid hbel
  clear hw4
  go_upto_region 8 with fail
  rw [← hw4'.out]
  go_wp2
  clear E lX wN2 k0 k1 k2' hw4' hc0
  go_loopw [11] (fun v wr => ∃ (j nd : Nat), j ≤ n ∧ v = .int .i64 j ∧ wr = w4.drewN nd) (fun v _ => n - (intOf v).toNat)
  case atStart => exact ⟨0, 0, Nat.zero_le _, rfl, rfl⟩
  case round =>
    obtain ⟨j, nd, hj, rfl, rfl⟩ := hrel
    by_cases hlj : j < n
    · obtain ⟨bc, oc, rfl, cj⟩ := rC.out j (by rw [hDl.out]; exact hlj)
      have h1 := d1.out j hlj
      have h2 := d2.out j hlj
      have h3 := d3.out j hlj
      have h4 := fun i hi => d4.out i j hi hlj
      have h5 := d5.out j hlj
      have z0 := ah_zero F D j
      have z1 := ah_succ F D j
      obtain ⟨x, hx⟩ : ∃ x, x = D.getD j 0 := ⟨_, rfl⟩
      rw [← hx] at h1 h2 h3 z0 cj
      simp only [← hx] at h4 z1
      have t1 : decide (x < -1) = false := decide_eq_false (by omega)
      have t2 : decide (x ≥ (n : Int)) = false := decide_eq_false (by omega)
      replace h4 := Lib.hid h4
      replace z0 := Lib.hid z0
      replace z1 := Lib.hid z1
      replace h5 := Lib.hid h5
      replace hx := Lib.hid hx
      by_cases hjO : j = O
      · have e1 : (x == 0) = true := by rw [beq_iff_eq]; exact h2.2 hjO
        have e2 : ((j : Int) == (O : Int)) = true := by rw [beq_iff_eq, hjO]
        have e3 : ((j : Int) != (O : Int)) = false := by rw [bne_eq_false_iff_eq, hjO]
        replace hjO := Lib.hid hjO
        clear h2 h3
        go_wp2
        go_quiet (fail)
        go_wp2
        clear t1 t2 e2
        clear e1 e3
        go_loopw [12, 13] (fun v12 v13 wr => ∃ (i nd : Nat), i ≤ n ∧ v13 = .int .i64 i ∧ v12 = .bool (ahUp F D j i) ∧ wr = w4.drewN nd) (fun _ v _ => n - (intOf v).toNat)
        case atStart => exact ⟨0, _, Nat.zero_le _, rfl, by rw [z0.out], by first | rfl | exact World.drewN_drewN _ _ _⟩
        case round =>
          obtain ⟨i, nd2, hi, rfl, rfl, rfl⟩ := hrel
          by_cases hli : i < n
          · obtain ⟨bc', oc', ee, ci⟩ := rC.out i (by rw [hDl.out]; exact hli)
            cases ee
            have g1 := d1.out i hli
            have g4 := h4.out i hli
            have zz := z1.out i
            have q1 := index_lt hli hlj
            have hFq := hF.out i j hli hlj
            obtain ⟨bd, od, rfl, c3⟩ := rY.out (i * n + j) (by rw [hD.out, hNN.out]; exact q1)
            have e1 : ((i : Int) * (n : Int)) = ((i * n : Nat) : Int) := by simp
            rw [← hNN.out] at q1
            obtain ⟨p, hp⟩ : ∃ p, p = i * n := ⟨_, rfl⟩
            rw [← hp] at q1 e1 c3 hFq
            have hD' := hD.out
            have i1 : (p : Int) + (j : Int) < ((y0.length : Nat) : Int) := by clear e1; omega
            have pw : -9223372036854775808 ≤ (p : Int) ∧ (p : Int) ≤ 9223372036854775807 := by clear e1; omega
            have w1' : ∀ m : Nat, m = n → wrap64 ((i : Int) * (m : Int)) = (p : Int) := by rintro m rfl; rw [e1]; exact IntWalk.wrap64_in _ pw
            have pj : p + j < y0.length := by clear e1; omega
            have p5 : p ≤ 576 := by clear e1; omega
            clear e1 pw hD' q1 hp
            generalize y0.getD (p + j) 0 = dx at *
            generalize D.getD i 0 = y at *
            have wy : wrap64 (y + 1) = y + 1 := IntWalk.wrap64_in _ (by omega)
            generalize hah : ahUp F D j i = ah at *
            replace hah := Lib.hid hah
            cases hb : F i j
            · rw [hb] at hFq zz
              have f1 : (dx != 1) = true := by rw [bne, hFq]; rfl
              simp only [Bool.false_and, Bool.or_false] at zz
              replace zz := Lib.hid zz
              replace hb := Lib.hid hb
              replace hFq := Lib.hid hFq
              clear g4
              go_wp2
              go_roundw
              case rel => exact ⟨i + 1, _, hli, num1 i, by rw [zz.out], by first | rfl | exact World.drewN_drewN _ _ _⟩
              case measure => exact meas1 hli
            · rw [hb] at hFq zz
              have f1 : (dx != 1) = false := by rw [bne, hFq]; rfl
              by_cases hy : y < 0
              · have f2 : decide (y < 0) = true := decide_eq_true hy
                rw [decide_eq_false (show ¬ 0 ≤ y by omega)] at zz
                simp only [Bool.true_and, Bool.false_and, Bool.or_false] at zz
                replace zz := Lib.hid zz
                replace hb := Lib.hid hb
                replace hFq := Lib.hid hFq
                clear g4
                go_wp2
                go_roundw
                case rel => exact ⟨i + 1, _, hli, num1 i, by rw [zz.out], by first | rfl | exact World.drewN_drewN _ _ _⟩
                case measure => exact meas1 hli
              · have f2 : decide (y < 0) = false := decide_eq_false hy
                have g5 := g4 hb (by omega)
                have f3 : decide (x < 0) = false := decide_eq_false (by omega)
                have f4 : decide (x > y + 1) = false := decide_eq_false (by omega)
                rw [decide_eq_true (show 0 ≤ y by omega), Bool.true_and, Bool.true_and] at zz
                replace hb := Lib.hid hb
                replace hFq := Lib.hid hFq
                clear g4
                by_cases hxy : x = y + 1
                · have f5 : (x == y + 1) = true := by rw [beq_iff_eq]; exact hxy
                  rw [f5, Bool.or_true] at zz
                  replace zz := Lib.hid zz
                  replace hxy := Lib.hid hxy
                  go_wp2
                  go_quiet (fail)
                  go_wp2
                  go_quiet (fail)
                  go_wp2
                  go_roundw
                  case rel => exact ⟨i + 1, _, hli, num1 i, by rw [zz.out], by first | rfl | exact World.drewN_drewN _ _ _⟩
                  case measure => exact meas1 hli
                · have f5 : (x == y + 1) = false := by rw [beq_eq_false_iff_ne]; exact hxy
                  rw [f5, Bool.or_false] at zz
                  replace zz := Lib.hid zz
                  replace hxy := Lib.hid hxy
                  go_wp2
                  go_quiet (fail)
                  go_wp2
                  go_quiet (fail)
                  go_wp2
                  go_roundw
                  case rel => exact ⟨i + 1, _, hli, num1 i, by rw [zz.out], by first | rfl | exact World.drewN_drewN _ _ _⟩
                  case measure => exact meas1 hli
          · obtain rfl : i = n := by omega
            rw [h5.out]
            go_wp2
            go_roundw
            case rel => exact ⟨j + 1, _, hlj, num1 j, by first | rfl | exact World.drewN_drewN _ _ _⟩
            case measure => exact meas1 hlj
      · have e1 : (x == 0) = false := by rw [beq_eq_false_iff_ne]; exact fun k => hjO (h2.1 k)
        have e2 : ((j : Int) == (O : Int)) = false := by rw [beq_eq_false_iff_ne]; omega
        have e3 : ((j : Int) != (O : Int)) = true := by rw [bne_iff_ne]; omega
        have h6 := h3 hjO
        have q1 := index_lt hO hlj
        have m1 : ((O : Int) * (n : Int)) = ((O * n : Nat) : Int) := by simp
        have x1 := hXg.out O j hO hlj
        obtain ⟨p, hp⟩ : ∃ p, p = O * n := ⟨_, rfl⟩
        rw [← hNN.out] at q1
        rw [← hp] at q1 m1 x1
        have hL := hXl.out
        obtain ⟨bx, ox, rfl, cx⟩ := rX.out (p + j) (by omega)
        rw [x1] at cx
        have j1 : (p : Int) + (j : Int) < ((X.length : Nat) : Int) := by clear m1; omega
        have j3 : p + j < X.length := by clear m1; omega
        have p1 : p ≤ 576 := by clear m1; omega
        have pw1 : -9223372036854775808 ≤ (p : Int) ∧ (p : Int) ≤ 9223372036854775807 := by clear m1; omega
        have w1' : ∀ m : Nat, m = n → wrap64 ((O : Int) * (m : Int)) = (p : Int) := by rintro m rfl; rw [m1]; exact IntWalk.wrap64_in _ pw1
        obtain ⟨cb, hcb⟩ : ∃ cb, cb = Re.clo n F O j := ⟨_, rfl⟩
        rw [← hcb] at cx h6
        have e4 : decide (x > 0) = cb := by
          cases cb
          · exact decide_eq_false fun k => absurd (h6.1 k) (by decide)
          · exact decide_eq_true (h6.2 rfl)
        obtain ⟨xc, hxc⟩ : ∃ xc : Int, xc = if cb = true then 1 else 0 := ⟨_, rfl⟩
        rw [← hxc] at cx
        have e5 : (xc == 1) = cb := by rw [hxc]; cases cb <;> rfl
        replace hjO := Lib.hid hjO
        replace hcb := Lib.hid hcb
        replace hxc := Lib.hid hxc
        clear h2 h3 h6 m1 x1 hp hL q1 pw1
        cases cb
        all_goals
          go_wp2
          go_quiet (fail)
          go_wp2
          clear t1 t2 e2 e4 e5 cx w1' j1 j3
          clear e1 e3
          go_loopw [12, 13] (fun v12 v13 wr => ∃ (i nd : Nat), i ≤ n ∧ v13 = .int .i64 i ∧ v12 = .bool (ahUp F D j i) ∧ wr = w4.drewN nd) (fun _ v _ => n - (intOf v).toNat)
          case atStart => exact ⟨0, _, Nat.zero_le _, rfl, by rw [z0.out], by first | rfl | exact World.drewN_drewN _ _ _⟩
          case round =>
            obtain ⟨i, nd2, hi, rfl, rfl, rfl⟩ := hrel
            by_cases hli : i < n
            · obtain ⟨bc', oc', ee, ci⟩ := rC.out i (by rw [hDl.out]; exact hli)
              cases ee
              have g1 := d1.out i hli
              have g4 := h4.out i hli
              have zz := z1.out i
              have q1 := index_lt hli hlj
              have hFq := hF.out i j hli hlj
              obtain ⟨bd, od, rfl, c3⟩ := rY.out (i * n + j) (by rw [hD.out, hNN.out]; exact q1)
              have e1 : ((i : Int) * (n : Int)) = ((i * n : Nat) : Int) := by simp
              rw [← hNN.out] at q1
              obtain ⟨p, hp⟩ : ∃ p, p = i * n := ⟨_, rfl⟩
              rw [← hp] at q1 e1 c3 hFq
              have hD' := hD.out
              have i1 : (p : Int) + (j : Int) < ((y0.length : Nat) : Int) := by clear e1; omega
              have pw : -9223372036854775808 ≤ (p : Int) ∧ (p : Int) ≤ 9223372036854775807 := by clear e1; omega
              have w1' : ∀ m : Nat, m = n → wrap64 ((i : Int) * (m : Int)) = (p : Int) := by rintro m rfl; rw [e1]; exact IntWalk.wrap64_in _ pw
              have pj : p + j < y0.length := by clear e1; omega
              have p5 : p ≤ 576 := by clear e1; omega
              clear e1 pw hD' q1 hp
              generalize y0.getD (p + j) 0 = dx at *
              generalize D.getD i 0 = y at *
              have wy : wrap64 (y + 1) = y + 1 := IntWalk.wrap64_in _ (by omega)
              generalize hah : ahUp F D j i = ah at *
              replace hah := Lib.hid hah
              cases hb : F i j
              · rw [hb] at hFq zz
                have f1 : (dx != 1) = true := by rw [bne, hFq]; rfl
                simp only [Bool.false_and, Bool.or_false] at zz
                replace zz := Lib.hid zz
                replace hb := Lib.hid hb
                replace hFq := Lib.hid hFq
                clear g4
                go_wp2
                go_roundw
                case rel => exact ⟨i + 1, _, hli, num1 i, by rw [zz.out], by first | rfl | exact World.drewN_drewN _ _ _⟩
                case measure => exact meas1 hli
              · rw [hb] at hFq zz
                have f1 : (dx != 1) = false := by rw [bne, hFq]; rfl
                by_cases hy : y < 0
                · have f2 : decide (y < 0) = true := decide_eq_true hy
                  rw [decide_eq_false (show ¬ 0 ≤ y by omega)] at zz
                  simp only [Bool.true_and, Bool.false_and, Bool.or_false] at zz
                  replace zz := Lib.hid zz
                  replace hb := Lib.hid hb
                  replace hFq := Lib.hid hFq
                  clear g4
                  go_wp2
                  go_roundw
                  case rel => exact ⟨i + 1, _, hli, num1 i, by rw [zz.out], by first | rfl | exact World.drewN_drewN _ _ _⟩
                  case measure => exact meas1 hli
                · have f2 : decide (y < 0) = false := decide_eq_false hy
                  have g5 := g4 hb (by omega)
                  have f3 : decide (x < 0) = false := decide_eq_false (by omega)
                  have f4 : decide (x > y + 1) = false := decide_eq_false (by omega)
                  rw [decide_eq_true (show 0 ≤ y by omega), Bool.true_and, Bool.true_and] at zz
                  replace hb := Lib.hid hb
                  replace hFq := Lib.hid hFq
                  clear g4
                  by_cases hxy : x = y + 1
                  · have f5 : (x == y + 1) = true := by rw [beq_iff_eq]; exact hxy
                    rw [f5, Bool.or_true] at zz
                    replace zz := Lib.hid zz
                    replace hxy := Lib.hid hxy
                    go_wp2
                    go_quiet (fail)
                    go_wp2
                    go_quiet (fail)
                    go_wp2
                    go_roundw
                    case rel => exact ⟨i + 1, _, hli, num1 i, by rw [zz.out], by first | rfl | exact World.drewN_drewN _ _ _⟩
                    case measure => exact meas1 hli
                  · have f5 : (x == y + 1) = false := by rw [beq_eq_false_iff_ne]; exact hxy
                    rw [f5, Bool.or_false] at zz
                    replace zz := Lib.hid zz
                    replace hxy := Lib.hid hxy
                    go_wp2
                    go_quiet (fail)
                    go_wp2
                    go_quiet (fail)
                    go_wp2
                    go_roundw
                    case rel => exact ⟨i + 1, _, hli, num1 i, by rw [zz.out], by first | rfl | exact World.drewN_drewN _ _ _⟩
                    case measure => exact meas1 hli
            · obtain rfl : i = n := by omega
              rw [h5.out]
              go_wp2
              go_roundw
              case rel => exact ⟨j + 1, _, hlj, num1 j, by first | rfl | exact World.drewN_drewN _ _ _⟩
              case measure => exact meas1 hlj
    · have hbz := below_drewN hbel.out nd
      go_wp2
      go_ret
      exact ⟨rfl, hbz⟩
end Go.Proofs.YtiebknfmmanbiaaDoor
