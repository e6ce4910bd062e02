/- The walk of the law MatrixDets: it returns true at all arrays. Condition: the library's one variable is laid. -/
import Derived.Deep.RegionHeld3
import Derived.Deep.Cut
import Derived.Test.YtcenhemlgapkeaaDoorRefSqF
import Derived.Test.YtcenhemlgapkeaaDoorRefMat
import Derived.Test.YtcenhemlgapkeaaDoorRefChar
import Derived.Test.YtcenhemlgapkeaaDoorWkMDet0
import Derived.Test.YtcenhemlgapkeaaDoorSqParts
import Derived.Test.YtcenhemlgapkeaaDoorBdA
import Derived.Test.YtcenhemlgapkeaaDoorLaidF
namespace Go.Proofs.YtcenhemlgapkeaaDoor
open Go.RowKit


set_option maxRecDepth 20000 in
set_option maxHeartbeats 16000000 in
theorem matrixDets_walk (b0 : Bool) (p0 q0 : Option Addr) (x0 y0 : List Int) (c0 d0 : Nat) (w : World) (r0 : Row w p0 x0) (s0 : Row w q0 y0) (l0 : x0.length ≤ maxLen) (m0 : y0.length ≤ maxLen) (n0 : All64 x0) (o0 : All64 y0) (hg : Laid w) :
    Calls Tryd.prog 6 #[arrV b0 p0 x0.length c0 q0 y0.length d0] w fun e w' => e = .returned (.bool true) ∧ Below w.heap.size w w' := by
  by_cases hf : M.sqFault ⟨b0, x0, y0⟩ 6 = 0
  case neg =>
    have hrel := fun w h1 h2 => sqFault_any 6 (by decide) b0 p0 q0 x0 y0 _ c0 _ d0 w h1 h2 l0 m0 rfl rfl
    have hmp := fun w h1 h2 => mdet_any b0 p0 q0 x0 y0 _ c0 _ d0 w h1 h2 l0 m0 o0 rfl rfl
    have hmc := fun w h1 h2 => mchar_any b0 p0 q0 x0 y0 _ c0 _ d0 w h1 h2 l0 m0 o0 rfl rfl
    have hr : M.mdet ⟨b0, x0, y0⟩ = .error (M.sqFault ⟨b0, x0, y0⟩ 6) := if_neg hf
    have hr2 : M.mchar ⟨b0, x0, y0⟩ = .error (M.sqFault ⟨b0, x0, y0⟩ 6) := if_neg hf
    rw [hr] at hmp
    simp only [show ((6 : Nat) : Int) = 6 from rfl] at hrel
    generalize M.sqFault ⟨b0, x0, y0⟩ 6 = e0 at *
    have tz : (e0 == 0) = false := by rw [beq_eq_false_iff_ne]; exact hf
    have tee : (e0 == e0) = true := beq_self_eq_true _
    have E := (((((Env.start w).add (f := laidF) hg).addRow s0).addRow r0).box b0 p0 x0.length c0 q0 y0.length d0)
    replace l0 := Lib.hid l0
    replace m0 := Lib.hid m0
    replace n0 := Lib.hid n0
    replace o0 := Lib.hid o0
    clear r0
    clear s0
    replace hrel := Lib.hid hrel
    replace hmp := Lib.hid hmp
    replace hmc := Lib.hid hmc
    replace hr := Lib.hid hr
    replace hr2 := Lib.hid hr2
    replace hf := Lib.hid hf
    go_enter Tryd.func6, Tryd.ntmps6
    obtain ⟨⟨u0, u1, u2⟩, -, -, -⟩ := E.getBox 0 rfl
    go_wp2_with fail
    refine (hrel.out _ (E.getRow 1 rfl) (E.getRow 2 rfl)).mono ?_
    rintro e v16 ⟨rfl, hb⟩
    replace E := E.step hb
    clear hb
    clear u0 u1 u2
    obtain ⟨⟨u0, u1, u2⟩, -, -, -⟩ := E.getBox 0 rfl
    go_wp2_with fail
    refine (hmp.out _ (E.getRow 1 rfl) (E.getRow 2 rfl)).mono ?_
    rintro e v17 ⟨rfl, hb⟩
    dsimp only [resI]
    replace E := E.step hb
    clear hb
    rw [← errV_ne hf.out]
    clear u0 u1 u2
    go_wp2_with fail
    refine (error_any e0 e0 _ (E.laid 3 rfl)).mono ?_
    rintro e v18 ⟨rfl, hb⟩
    rw [tee]
    replace E := E.step hb
    clear hb
    obtain ⟨⟨u0, u1, u2⟩, -, -, -⟩ := E.getBox 0 rfl
    go_wp2_with fail
    refine (hmc.out _ (E.getRow 1 rfl) (E.getRow 2 rfl)).mono ?_
    intro e v19 hp
    obtain rfl := hp.1 _ hr2.out
    replace E := E.step hp.2.2
    clear hp
    rw [← errV_ne hf.out]
    clear u0 u1 u2
    go_wp2_with fail
    refine (intsL_any none none [] [] 0 0 0 0 e0 e0 _ (E.laid 3 rfl) (Row.nil _ none) (Row.nil _ none) (by simp [maxLen]) (by simp [maxLen]) rfl rfl ⟨beq_self_eq_true _, decide_eq_true rfl⟩).mono ?_
    rintro e v20 ⟨rfl, hb⟩
    replace E := E.step hb
    clear hb
    go_wp2
    go_ret
    exact ⟨rfl, E.bel⟩
  case pos =>
    obtain ⟨n, hn, hb0, hx0, hD, hN⟩ := sq_parts hf
    dsimp only at hb0 hx0 hD hN
    subst hb0
    subst hx0
    clear l0 n0
    have hbs := r0 0 (by simp)
    obtain ⟨bs, os, rfl, hc0⟩ := hbs
    have lbs : bs < w.heap.size := World.block_lt_of_cell? w _ hc0
    clear hc0
    dsimp only [List.length_cons, List.length_nil, Nat.zero_add, Nat.reduceAdd]
    have l0 : ([(n : Int), (n : Int)] : List Int).length ≤ maxLen := by simp [maxLen]
    have hrel := fun w h1 h2 => sqFault_any 6 (by decide) false (some ⟨bs, os, none⟩) q0 [(n : Int), (n : Int)] y0 2 c0 _ d0 w h1 h2 l0 m0 rfl rfl
    simp only [show ((6 : Nat) : Int) = 6 from rfl, hf] at hrel
    have hself := sqList_self hD o0
    have hmp := fun w h1 h2 => mdet_any false (some ⟨bs, os, none⟩) q0 [(n : Int), (n : Int)] y0 2 c0 _ d0 w h1 h2 l0 m0 o0 rfl rfl
    have hmc := fun w h1 h2 => mchar_any false (some ⟨bs, os, none⟩) q0 [(n : Int), (n : Int)] y0 2 c0 _ d0 w h1 h2 l0 m0 o0 rfl rfl
    have hr : M.mdet ⟨false, [(n : Int), (n : Int)], y0⟩ = .ok (wrap64 (Mx.det n (M.sqA n y0))) := (if_pos hf).trans (by simp only [hN])
    have hr2 : M.mchar ⟨false, [(n : Int), (n : Int)], y0⟩ = .ok (charL n (M.sqA n y0)) := (if_pos hf).trans (by simp only [hN])
    rw [hr] at hmp
    have tz : ((0 : Int) == 0) = true := rfl
    have hrd := fun w h => refDet_any n (M.sqA n y0) q0 d0 w hn h
    have hrc := fun w h => (refChar_any n (M.sqA n y0) q0 d0 w hn h).mono fun e w' h => h.row
    rw [hself, ← hD] at hrd hrc
    have hCl : (charL n (M.sqA n y0)).length ≤ maxLen := by rw [charL_length]; unfold maxLen; omega
    rw [← charL_length n (M.sqA n y0)] at hrc
    generalize charL n (M.sqA n y0) = C at *
    generalize wrap64 (Mx.det n (M.sqA n y0)) = dd at *
    have tdd : (dd == dd) = true := beq_self_eq_true _
    clear hn
    replace hrd := Lib.hid hrd
    replace hrc := Lib.hid hrc
    replace hCl := Lib.hid hCl
    have E := ((((Env.start w).add (f := laidF) hg).addRow s0).addRow r0).box false (some ⟨bs, os, none⟩) 2 c0 q0 y0.length d0
    replace hrel := Lib.hid hrel
    replace hmp := Lib.hid hmp
    replace hr := Lib.hid hr
    replace hf := Lib.hid hf
    replace hD := Lib.hid hD
    replace hN := Lib.hid hN
    replace hself := Lib.hid hself
    replace l0 := Lib.hid l0
    replace m0 := Lib.hid m0
    replace o0 := Lib.hid o0
    replace hmc := Lib.hid hmc
    replace hr2 := Lib.hid hr2
    clear r0 s0
    go_enter Tryd.func6, Tryd.ntmps6
    obtain ⟨⟨u0, u1, u2⟩, -, -, -⟩ := E.getBox 0 rfl
    go_wp2_with fail
    refine (hrel.out _ (E.getRow 1 rfl) (E.getRow 2 rfl)).mono ?_
    rintro e v21 ⟨rfl, hb⟩
    have ltA := ((E.step hb).getBox 0 rfl).lt
    have ltB := Nat.lt_of_lt_of_le lbs (Nat.le_of_lt ltA)
    replace E := E.step hb
    clear hb
    clear u0 u1 u2
    clear ltA ltB
    obtain ⟨⟨u0, u1, u2⟩, -, -, -⟩ := E.getBox 0 rfl
    have hc0 := E.getRow 1 rfl 0 (by simp)
    obtain ⟨_, _, ee, hc0⟩ := hc0
    cases ee
    simp only [List.getD_cons_zero, Nat.add_zero] at hc0
    have SS : (v21.drew.cell? ⟨w.heap.size, 0, none⟩ = some (.bool false) ∧ v21.drew.cell? ⟨w.heap.size, 1, none⟩ = some (.slice (some ⟨bs, os, none⟩) 2 c0) ∧ v21.drew.cell? ⟨w.heap.size, 2, none⟩ = some (.slice q0 y0.length d0)) ∧ v21.drew.cell? ⟨bs, os, none⟩ = some (.int .i64 (n : Int)) := ⟨(E.getBox 0 rfl).1, hc0⟩
    have rD : Row v21.drew q0 y0 := (E.getRow 2 rfl)
    go_upto_region 5 with fail
    clear u0 u1 u2
    clear hc0
    go_region_held3 (fun w' => (w'.cell? ⟨w.heap.size, 0, none⟩ = some (.bool false) ∧ w'.cell? ⟨w.heap.size, 1, none⟩ = some (.slice (some ⟨bs, os, none⟩) 2 c0) ∧ w'.cell? ⟨w.heap.size, 2, none⟩ = some (.slice q0 y0.length d0)) ∧ w'.cell? ⟨bs, os, none⟩ = some (.int .i64 (n : Int)))
      (first | assumption | (exact held4 hb8 (by assumption)) | go_keep)
      (first
        | (go_at_call 24; refine (hrd.out _ rD).mono ?_; rintro e v8 ⟨rfl, hb8⟩))
    replace E := (E.drew 1).step hb8
    clear SS rD hb8
    obtain ⟨⟨u0, u1, u2⟩, -, -, -⟩ := E.getBox 0 rfl
    have hc0 := E.getRow 1 rfl 0 (by simp)
    obtain ⟨_, _, ee, hc0⟩ := hc0
    cases ee
    simp only [List.getD_cons_zero, Nat.add_zero] at hc0
    have SS : (v8.drew.cell? ⟨w.heap.size, 0, none⟩ = some (.bool false) ∧ v8.drew.cell? ⟨w.heap.size, 1, none⟩ = some (.slice (some ⟨bs, os, none⟩) 2 c0) ∧ v8.drew.cell? ⟨w.heap.size, 2, none⟩ = some (.slice q0 y0.length d0)) ∧ v8.drew.cell? ⟨bs, os, none⟩ = some (.int .i64 (n : Int)) := ⟨(E.getBox 0 rfl).1, hc0⟩
    have rD : Row v8.drew q0 y0 := (E.getRow 2 rfl)
    go_upto_region 6 with fail
    clear u0 u1 u2
    clear hc0
    go_region_held3 (fun w' => (w'.cell? ⟨w.heap.size, 0, none⟩ = some (.bool false) ∧ w'.cell? ⟨w.heap.size, 1, none⟩ = some (.slice (some ⟨bs, os, none⟩) 2 c0) ∧ w'.cell? ⟨w.heap.size, 2, none⟩ = some (.slice q0 y0.length d0)) ∧ w'.cell? ⟨bs, os, none⟩ = some (.int .i64 (n : Int)))
      (first | assumption | (exact held4 hb9 (by assumption)) | go_keep)
      (first
        | (go_at_call 25; refine (hrc.out _ rD).mono ?_; rintro e v9 ⟨aW, kW, rfl, rW9, hb9⟩))
    replace E := ((E.drew 1).step hb9).addRow rW9
    clear SS rD rW9 hb9
    obtain ⟨⟨u0, u1, u2⟩, -, -, -⟩ := E.getBox 1 rfl
    go_wp2_with fail
    refine (hmp.out _ (E.getRow 2 rfl) (E.getRow 3 rfl)).mono ?_
    rintro e v22 ⟨rfl, hb⟩
    dsimp only [resI]
    replace E := E.step hb
    clear hb
    clear u0 u1 u2
    go_wp2_with fail
    refine (error_any 0 0 _ (E.laid 4 rfl)).mono ?_
    rintro e v23 ⟨rfl, hb⟩
    rw [tz]
    replace E := E.step hb
    clear hb
    obtain ⟨⟨u0, u1, u2⟩, -, -, -⟩ := E.getBox 1 rfl
    go_wp2_with fail
    refine (hmc.out _ (E.getRow 2 rfl) (E.getRow 3 rfl)).mono ?_
    intro e v24 hp
    obtain ⟨aD, kD, rfl, rD, hb⟩ := hp.is_ok hr2.out
    clear hp
    replace E := (E.step hb).addRow rD
    clear hb rD
    clear u0 u1 u2
    go_wp2_with fail
    refine (intsL_any aD aW C C _ _ kD kW 0 0 _ (E.laid 5 rfl) (E.getRow 0 rfl) (E.getRow 1 rfl) hCl.out hCl.out rfl rfl ⟨beq_self_eq_true _, decide_eq_true rfl⟩).mono ?_
    rintro e v25 ⟨rfl, hb⟩
    replace E := E.step hb
    clear hb
    go_wp2
    go_ret
    exact ⟨rfl, E.bel⟩
end Go.Proofs.YtcenhemlgapkeaaDoor
