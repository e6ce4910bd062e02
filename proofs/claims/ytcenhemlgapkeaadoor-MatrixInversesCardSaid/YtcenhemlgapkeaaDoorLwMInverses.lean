/- The walk of the law MatrixInverses: it returns true at all arrays. Condition: the library's one variable is laid. -/
import Derived.Deep.RegionHeld3
import Derived.Deep.Cut
import Derived.Test.YtcenhemlgapkeaaDoorRefSqF
import Derived.Test.YtcenhemlgapkeaaDoorRefMat
import Derived.Test.YtcenhemlgapkeaaDoorRefInv
import Derived.Test.YtcenhemlgapkeaaDoorWkMInv
import Derived.Test.YtcenhemlgapkeaaDoorWkSquare
import Derived.Test.YtcenhemlgapkeaaDoorSqParts
import Derived.Test.YtcenhemlgapkeaaDoorBdA
import Derived.Test.YtcenhemlgapkeaaDoorLaidF
namespace Go.Proofs.YtcenhemlgapkeaaDoor
open Go.RowKit

theorem tmod_odd {d : Int} (h : ¬ d.tmod 2 = 0) : d % 2 = 1 := by
  rcases Int.emod_two_eq d with e | e
  · exact absurd (Int.tmod_eq_zero_of_dvd (Int.dvd_of_emod_eq_zero e)) h
  · exact e

set_option maxRecDepth 20000 in
set_option maxHeartbeats 16000000 in
theorem matrixInverses_walk (b0 : Bool) (p0 q0 : Option Addr) (x0 y0 : List Int) (c0 d0 : Nat) (w : World) (r0 : Row w p0 x0) (s0 : Row w q0 y0) (l0 : x0.length ≤ maxLen) (m0 : y0.length ≤ maxLen) (n0 : All64 x0) (o0 : All64 y0) (hg : Laid w) :
    Calls Tryd.prog 8 #[arrV b0 p0 x0.length c0 q0 y0.length d0] w fun e w' => e = .returned (.bool true) ∧ Below w.heap.size w w' := by
  by_cases hf : M.sqFault ⟨b0, x0, y0⟩ 6 = 0
  case neg =>
    have hrel := fun w h1 h2 => sqFault_any 6 (by decide) b0 p0 q0 x0 y0 _ c0 _ d0 w h1 h2 l0 m0 rfl rfl
    have hmp := fun w h1 h2 => (minv_any b0 p0 q0 x0 y0 _ c0 _ d0 w h1 h2 l0 m0 o0 rfl rfl).mono fun e w' h => h.plain
    have hr : M.minv ⟨b0, x0, y0⟩ = .error (M.sqFault ⟨b0, x0, y0⟩ 6) := if_pos hf
    simp only [show ((6 : Nat) : Int) = 6 from rfl] at hrel
    generalize M.sqFault ⟨b0, x0, y0⟩ 6 = e0 at *
    have tz : (e0 == 0) = false := by rw [beq_eq_false_iff_ne]; exact hf
    have E := (((((Env.start w).add (f := laidF) hg).addRow s0).addRow r0).box b0 p0 x0.length c0 q0 y0.length d0)
    replace l0 := Lib.hid l0
    replace m0 := Lib.hid m0
    replace n0 := Lib.hid n0
    replace o0 := Lib.hid o0
    clear r0
    clear s0
    replace hrel := Lib.hid hrel
    replace hmp := Lib.hid hmp
    replace hr := Lib.hid hr
    replace hf := Lib.hid hf
    go_enter Tryd.func8, Tryd.ntmps8
    obtain ⟨⟨u0, u1, u2⟩, -, -, -⟩ := E.getBox 0 rfl
    go_wp2_with fail
    refine (hrel.out _ (E.getRow 1 rfl) (E.getRow 2 rfl)).mono ?_
    rintro e v26 ⟨rfl, hb⟩
    replace E := E.step hb
    clear hb
    clear u0 u1 u2
    obtain ⟨⟨u0, u1, u2⟩, -, -, -⟩ := E.getBox 0 rfl
    go_wp2
    go_quiet (fail)
    clear u0 u1 u2
    replace E := E.drew nq
    obtain ⟨v27, hvq⟩ : ∃ x : World, x = v26.drewN nq := ⟨_, rfl⟩
    rw [← hvq] at E ⊢
    replace hvq := Lib.hid hvq
    replace E := ((E.addRow (Row.nil _ none)).addRow (Row.nil _ none)).box false none 0 0 none 0 0
    try simp only [World.size_alloc] at E
    obtain ⟨⟨u0, u1, u2⟩, -, -, -⟩ := E.getBox 3 rfl
    go_wp2_with fail
    refine (hmp.out _ (E.getRow 4 rfl) (E.getRow 5 rfl)).mono ?_
    intro e v28 hp
    obtain rfl := hp.1 _ hr.out
    replace E := E.step hp.2.2
    clear hp
    rw [← errV_ne hf.out]
    clear u0 u1 u2
    replace E := ((E.addRow (Row.nil _ none)).addRow (Row.nil _ none)).box false none 0 0 none 0 0
    try simp only [World.size_alloc] at E
    obtain ⟨⟨u0, u1, u2⟩, -, -, -⟩ := E.getBox 0 rfl
    obtain ⟨⟨t0, t1, t2⟩, -, -, -⟩ := E.getBox 3 rfl
    go_wp2_with fail
    refine (isL_any false false none none none none [] [] [] [] 0 0 0 0 0 0 0 0 e0 e0 _ (E.laid 9 rfl) (E.getRow 1 rfl) (E.getRow 2 rfl) (by simp [maxLen]) (by simp [maxLen]) rfl rfl (E.getRow 4 rfl) (E.getRow 5 rfl) (by simp [maxLen]) (by simp [maxLen]) rfl rfl ⟨beq_self_eq_true _, decide_eq_true rfl⟩).mono ?_
    rintro e v29 ⟨rfl, hb⟩
    replace E := E.step hb
    clear hb
    clear u0 u1 u2 t0 t1 t2
    go_wp2
    go_ret
    exact ⟨rfl, E.bel⟩
  case pos =>
    obtain ⟨n, hn, hb0, hx0, hD, hN⟩ := sq_parts hf
    dsimp only at hb0 hx0 hD hN
    subst hb0
    subst hx0
    clear l0 n0
    have hbs := r0 0 (by simp)
    obtain ⟨bs, os, rfl, hc0⟩ := hbs
    have lbs : bs < w.heap.size := World.block_lt_of_cell? w _ hc0
    clear hc0
    dsimp only [List.length_cons, List.length_nil, Nat.zero_add, Nat.reduceAdd]
    have l0 : ([(n : Int), (n : Int)] : List Int).length ≤ maxLen := by simp [maxLen]
    have hrel := fun w h1 h2 => sqFault_any 6 (by decide) false (some ⟨bs, os, none⟩) q0 [(n : Int), (n : Int)] y0 2 c0 _ d0 w h1 h2 l0 m0 rfl rfl
    simp only [show ((6 : Nat) : Int) = 6 from rfl, hf] at hrel
    have hself := sqList_self hD o0
    have hmp := fun w h1 h2 => (minv_any false (some ⟨bs, os, none⟩) q0 [(n : Int), (n : Int)] y0 2 c0 _ d0 w h1 h2 l0 m0 o0 rfl rfl).mono fun e w' h => h.plain
    have tz : ((0 : Int) == 0) = true := rfl
    have hrd := fun w h => refDet_any n (M.sqA n y0) q0 d0 w hn h
    rw [hself, ← hD] at hrd
    by_cases h0 : (wrap64 (Mx.det n (M.sqA n y0))).tmod 2 = 0
    case pos =>
      have hr : M.minv ⟨false, [(n : Int), (n : Int)], y0⟩ = .error 6 := (if_neg (fun h => h hf)).trans (by simp only [hN]; exact if_pos h0)
      have t2 : ((wrap64 (Mx.det n (M.sqA n y0))).tmod 2 == 0) = true := by rw [beq_iff_eq]; exact h0
      generalize wrap64 (Mx.det n (M.sqA n y0)) = dd at *
      clear h0 hn
      replace hrd := Lib.hid hrd
      have E := ((((Env.start w).add (f := laidF) hg).addRow s0).addRow r0).box false (some ⟨bs, os, none⟩) 2 c0 q0 y0.length d0
      replace hrel := Lib.hid hrel
      replace hmp := Lib.hid hmp
      replace hr := Lib.hid hr
      replace hf := Lib.hid hf
      replace hD := Lib.hid hD
      replace hN := Lib.hid hN
      replace hself := Lib.hid hself
      replace l0 := Lib.hid l0
      replace m0 := Lib.hid m0
      replace o0 := Lib.hid o0
      clear r0 s0
      go_enter Tryd.func8, Tryd.ntmps8
      obtain ⟨⟨u0, u1, u2⟩, -, -, -⟩ := E.getBox 0 rfl
      go_wp2_with fail
      refine (hrel.out _ (E.getRow 1 rfl) (E.getRow 2 rfl)).mono ?_
      rintro e v30 ⟨rfl, hb⟩
      have ltA := ((E.step hb).getBox 0 rfl).lt
      have ltB := Nat.lt_of_lt_of_le lbs (Nat.le_of_lt ltA)
      replace E := E.step hb
      clear hb
      clear u0 u1 u2
      clear ltA ltB
      obtain ⟨⟨u0, u1, u2⟩, -, -, -⟩ := E.getBox 0 rfl
      have hc0 := E.getRow 1 rfl 0 (by simp)
      obtain ⟨_, _, ee, hc0⟩ := hc0
      cases ee
      simp only [List.getD_cons_zero, Nat.add_zero] at hc0
      have SS : (v30.drew.cell? ⟨w.heap.size, 0, none⟩ = some (.bool false) ∧ v30.drew.cell? ⟨w.heap.size, 1, none⟩ = some (.slice (some ⟨bs, os, none⟩) 2 c0) ∧ v30.drew.cell? ⟨w.heap.size, 2, none⟩ = some (.slice q0 y0.length d0)) ∧ v30.drew.cell? ⟨bs, os, none⟩ = some (.int .i64 (n : Int)) := ⟨(E.getBox 0 rfl).1, hc0⟩
      have rD : Row v30.drew q0 y0 := (E.getRow 2 rfl)
      go_upto_region 2 with fail
      clear u0 u1 u2
      clear hc0
      go_region_held3 (fun w' => (w'.cell? ⟨w.heap.size, 0, none⟩ = some (.bool false) ∧ w'.cell? ⟨w.heap.size, 1, none⟩ = some (.slice (some ⟨bs, os, none⟩) 2 c0) ∧ w'.cell? ⟨w.heap.size, 2, none⟩ = some (.slice q0 y0.length d0)) ∧ w'.cell? ⟨bs, os, none⟩ = some (.int .i64 (n : Int)))
        (first | assumption | (exact held4 hb7 (by assumption)) | go_keep)
        (first
          | (go_at_call 24; refine (hrd.out _ rD).mono ?_; rintro e v7 ⟨rfl, hb7⟩))
      replace E := (E.drew 1).step hb7
      clear SS rD hb7
      have ltA := (E.getBox 0 rfl).lt
      have ltB := Nat.lt_of_lt_of_le lbs (Nat.le_of_lt ltA)
      replace E := ((E.addRow (Row.nil _ none)).addRow (Row.nil _ none)).box false none 0 0 none 0 0
      try simp only [World.size_alloc] at E
      obtain ⟨⟨u0, u1, u2⟩, -, -, -⟩ := E.getBox 3 rfl
      go_wp2_with fail
      refine (hmp.out _ (E.getRow 4 rfl) (E.getRow 5 rfl)).mono ?_
      intro e v31 hp
      obtain rfl := hp.1 _ hr.out
      replace E := E.step hp.2.2
      clear hp
      rw [← errV_ne (show (6 : Int) ≠ 0 by decide)]
      clear u0 u1 u2
      replace E := ((E.addRow (Row.nil _ none)).addRow (Row.nil _ none)).box false none 0 0 none 0 0
      try simp only [World.size_alloc] at E
      obtain ⟨⟨u0, u1, u2⟩, -, -, -⟩ := E.getBox 0 rfl
      obtain ⟨⟨t0, t1, t2⟩, -, -, -⟩ := E.getBox 3 rfl
      go_wp2_with fail
      refine (isL_any false false none none none none [] [] [] [] 0 0 0 0 0 0 0 0 6 6 _ (E.laid 9 rfl) (E.getRow 1 rfl) (E.getRow 2 rfl) (by simp [maxLen]) (by simp [maxLen]) rfl rfl (E.getRow 4 rfl) (E.getRow 5 rfl) (by simp [maxLen]) (by simp [maxLen]) rfl rfl ⟨beq_self_eq_true _, decide_eq_true rfl⟩).mono ?_
      rintro e v32 ⟨rfl, hb⟩
      replace E := E.step hb
      clear hb
      clear u0 u1 u2 t0 t1 t2
      go_wp2
      go_ret
      exact ⟨rfl, E.bel⟩
    case neg =>
      have hr : M.minv ⟨false, [(n : Int), (n : Int)], y0⟩ = .ok ⟨false, [(n : Int), (n : Int)], sqList n (invM n (M.sqA n y0))⟩ := (if_neg (fun h => h hf)).trans (by simp only [hN]; exact if_neg h0)
      have t2 : ((wrap64 (Mx.det n (M.sqA n y0))).tmod 2 == 0) = false := by rw [beq_eq_false_iff_ne]; exact h0
      have ho : wrap64 (Mx.det n (M.sqA n y0)) % 2 = 1 := tmod_odd h0
      have hra := fun w h => refInv_any n (M.sqA n y0) q0 d0 w hn h ho
      rw [hself, ← hD] at hra
      have hsq := fun b m z w => square_any (n : Int) b m z w
      have hXl : (sqList n (invM n (M.sqA n y0))).length ≤ maxLen := by rw [sqList_length, ← hD]; exact m0
      unfold SqOut at hra
      rw [← sqList_length n (invM n (M.sqA n y0))] at hra
      generalize sqList n (invM n (M.sqA n y0)) = X at *
      generalize wrap64 (Mx.det n (M.sqA n y0)) = dd at *
      clear h0 ho hn
      replace hra := Lib.hid hra
      replace hsq := Lib.hid hsq
      replace hXl := Lib.hid hXl
      replace hrd := Lib.hid hrd
      have E := ((((Env.start w).add (f := laidF) hg).addRow s0).addRow r0).box false (some ⟨bs, os, none⟩) 2 c0 q0 y0.length d0
      replace hrel := Lib.hid hrel
      replace hmp := Lib.hid hmp
      replace hr := Lib.hid hr
      replace hf := Lib.hid hf
      replace hD := Lib.hid hD
      replace hN := Lib.hid hN
      replace hself := Lib.hid hself
      replace l0 := Lib.hid l0
      replace m0 := Lib.hid m0
      replace o0 := Lib.hid o0
      clear r0 s0
      go_enter Tryd.func8, Tryd.ntmps8
      obtain ⟨⟨u0, u1, u2⟩, -, -, -⟩ := E.getBox 0 rfl
      go_wp2_with fail
      refine (hrel.out _ (E.getRow 1 rfl) (E.getRow 2 rfl)).mono ?_
      rintro e v33 ⟨rfl, hb⟩
      have ltA := ((E.step hb).getBox 0 rfl).lt
      have ltB := Nat.lt_of_lt_of_le lbs (Nat.le_of_lt ltA)
      replace E := E.step hb
      clear hb
      clear u0 u1 u2
      clear ltA ltB
      obtain ⟨⟨u0, u1, u2⟩, -, -, -⟩ := E.getBox 0 rfl
      have hc0 := E.getRow 1 rfl 0 (by simp)
      obtain ⟨_, _, ee, hc0⟩ := hc0
      cases ee
      simp only [List.getD_cons_zero, Nat.add_zero] at hc0
      have SS : (v33.drew.cell? ⟨w.heap.size, 0, none⟩ = some (.bool false) ∧ v33.drew.cell? ⟨w.heap.size, 1, none⟩ = some (.slice (some ⟨bs, os, none⟩) 2 c0) ∧ v33.drew.cell? ⟨w.heap.size, 2, none⟩ = some (.slice q0 y0.length d0)) ∧ v33.drew.cell? ⟨bs, os, none⟩ = some (.int .i64 (n : Int)) := ⟨(E.getBox 0 rfl).1, hc0⟩
      have rD : Row v33.drew q0 y0 := (E.getRow 2 rfl)
      go_upto_region 2 with fail
      clear u0 u1 u2
      clear hc0
      go_region_held3 (fun w' => (w'.cell? ⟨w.heap.size, 0, none⟩ = some (.bool false) ∧ w'.cell? ⟨w.heap.size, 1, none⟩ = some (.slice (some ⟨bs, os, none⟩) 2 c0) ∧ w'.cell? ⟨w.heap.size, 2, none⟩ = some (.slice q0 y0.length d0)) ∧ w'.cell? ⟨bs, os, none⟩ = some (.int .i64 (n : Int)))
        (first | assumption | (exact held4 hb7 (by assumption)) | go_keep)
        (first
          | (go_at_call 24; refine (hrd.out _ rD).mono ?_; rintro e v7 ⟨rfl, hb7⟩))
      replace E := (E.drew 1).step hb7
      clear SS rD hb7
      have ltA := (E.getBox 0 rfl).lt
      have ltB := Nat.lt_of_lt_of_le lbs (Nat.le_of_lt ltA)
      replace E := ((E.addRow (Row.nil _ none)).addRow (Row.nil _ none)).box false none 0 0 none 0 0
      try simp only [World.size_alloc] at E
      have hc0 := E.getRow 4 rfl 0 (by simp)
      obtain ⟨_, _, ee, hc0⟩ := hc0
      cases ee
      simp only [List.getD_cons_zero, Nat.add_zero] at hc0
      have SS : ((v7.alloc (.cells #[.bool false, .slice none 0 0, .slice none 0 0] 24)).drew.cell? ⟨w.heap.size, 0, none⟩ = some (.bool false) ∧ (v7.alloc (.cells #[.bool false, .slice none 0 0, .slice none 0 0] 24)).drew.cell? ⟨w.heap.size, 1, none⟩ = some (.slice (some ⟨bs, os, none⟩) 2 c0) ∧ (v7.alloc (.cells #[.bool false, .slice none 0 0, .slice none 0 0] 24)).drew.cell? ⟨w.heap.size, 2, none⟩ = some (.slice q0 y0.length d0)) ∧ (v7.alloc (.cells #[.bool false, .slice none 0 0, .slice none 0 0] 24)).drew.cell? ⟨bs, os, none⟩ = some (.int .i64 (n : Int)) := ⟨(E.getBox 3 rfl).1, hc0⟩
      have rD : Row (v7.alloc (.cells #[.bool false, .slice none 0 0, .slice none 0 0] 24)).drew q0 y0 := (E.getRow 5 rfl)
      clear hc0
      go_upto_region 6 with fail
      go_region_held3 (fun w' => (w'.cell? ⟨w.heap.size, 0, none⟩ = some (.bool false) ∧ w'.cell? ⟨w.heap.size, 1, none⟩ = some (.slice (some ⟨bs, os, none⟩) 2 c0) ∧ w'.cell? ⟨w.heap.size, 2, none⟩ = some (.slice q0 y0.length d0)) ∧ w'.cell? ⟨bs, os, none⟩ = some (.int .i64 (n : Int)))
        (first | assumption | (exact held4 hb8 (by assumption)) | (exact held4 hb9 (by assumption)) | (exact held4_store ltA ltB (by assumption)) | go_keep)
        (first
          | (go_at_call 31; refine (hra.out _ rD).mono ?_; rintro e v8 ⟨eS, kS, rfl, rc8, hb8⟩)
          | (go_at_call 20; refine (hsq.out _ _ _ _).mono ?_; rintro e v9 ⟨aS, cS, rfl, ra, hb9⟩; have E9 := ((E.drew 1).step hb8).step hb9; obtain ⟨⟨g0, g1, g2⟩, g3, g4, g5⟩ := E9.getBox 0 rfl))
      have rb := rc8.below hb9
      have hb := hb9
      replace E := (E.drew 1).step hb8
      clear SS rD rc8 hb8 hb9
      try dsimp only [List.length_cons, List.length_nil, Nat.reduceAdd] at ra rb ⊢
      replace E := E.step hb
      obtain ⟨⟨g0, g1, g2⟩, g3, g4, g5⟩ := E.getBox 0 rfl
      have E6 := Env.store (w0 := w) (w := v9) (N := v7.heap.size) (ch := false) (a := none) (m := 0) (c := 0) (b := none) (n := 0) (z := 0)
        ((((((((((Env.base E.bel).add (f := laidF) (E.2 6 laidF rfl)).addRow (E.getRow 5 rfl)).addRow (E.getRow 4 rfl)).add (f := .box _ _ _ _ _ _ _ _) (E.getBox 3 rfl)).addRow (E.getRow 2 rfl)).addRow (E.getRow 1 rfl)).addRow rb).addRow ra).add (f := .box _ _ _ _ _ _ _ _) (E.getBox 0 rfl)) (by omega) (by
          intro i N' ch' a' m' c' b' n' z' h
          match i with
          | 0 => cases h
          | 1 => cases h
          | 2 => cases h
          | 3 => cases h
          | 4 => cases h; omega
          | 5 => cases h
          | 6 => cases h
          | 7 => cases h
          | i + 8 => cases h) false aS 2 cS eS X.length kS
      replace E := E6
      clear E6 ra rb hb
      clear g0 g1 g2 g3 g4 g5
      obtain ⟨w6, hw6⟩ : ∃ w6 : World, w6 = ((v9.setCell ⟨v7.heap.size, 0, none⟩ (.bool false)).setCell ⟨v7.heap.size, 1, none⟩ (.slice aS 2 cS)).setCell ⟨v7.heap.size, 2, none⟩ (.slice eS X.length kS) := ⟨_, rfl⟩
      rw [← hw6] at E ⊢
      replace hw6 := Lib.hid hw6
      obtain ⟨⟨u0, u1, u2⟩, -, -, -⟩ := E.getBox 5 rfl
      go_wp2_with fail
      refine (hmp.out _ (E.getRow 6 rfl) (E.getRow 7 rfl)).mono ?_
      intro e v34 hp
      obtain ⟨aG, cG, eG, kG, rfl, ra, rb, hb⟩ := hp.is_ok hr.out
      clear hp
      clear u0 u1 u2
      dsimp only [List.length_cons, List.length_nil, Nat.reduceAdd] at ra rb ⊢
      replace E := (((E.step hb).addRow rb).addRow ra).box false aG 2 cG eG X.length kG
      clear ra rb hb
      obtain ⟨⟨u0, u1, u2⟩, -, -, -⟩ := E.getBox 0 rfl
      obtain ⟨⟨t0, t1, t2⟩, -, -, -⟩ := E.getBox 3 rfl
      go_wp2_with fail
      refine (isL_any false false aG eG aS eS [(n : Int), (n : Int)] X [(n : Int), (n : Int)] X 2 cG _ kG 2 cS _ kS 0 0 _ (E.laid 11 rfl) (E.getRow 1 rfl) (E.getRow 2 rfl) l0.out hXl.out rfl rfl (E.getRow 4 rfl) (E.getRow 5 rfl) l0.out hXl.out rfl rfl ⟨beq_self_eq_true _, decide_eq_true rfl⟩).mono ?_
      rintro e v35 ⟨rfl, hb⟩
      replace E := E.step hb
      clear hb
      clear u0 u1 u2 t0 t1 t2
      go_wp2
      go_ret
      exact ⟨rfl, E.bel⟩
end Go.Proofs.YtcenhemlgapkeaaDoor
