/- The walk of the law ReachFars: it returns true at all arrays and numbers. Condition: the library's two variables are laid. -/
import Derived.Test.YtiebknfmmanbiaaDoorLwCloses
import Derived.Test.YtiebknfmmanbiaaDoorWkFar
import Derived.Test.YtiebknfmmanbiaaDoorRefDist
namespace Go.Proofs.YtiebknfmmanbiaaDoor
open Go.RowKit


set_option maxRecDepth 20000 in
set_option maxHeartbeats 16000000 in
theorem reachFars_walk (b0 : Bool) (p0 q0 : Option Addr) (x0 y0 : List Int) (c0 d0 : Nat) (a1 : Int) (w : World) (r0 : Row w p0 x0) (s0 : Row w q0 y0) (l0 : x0.length ≤ maxLen) (m0 : y0.length ≤ maxLen) (n0 : All64 x0) (o0 : All64 y0) (w1 : I64 a1) (hg : Laid w) (hT : Tab32 w) :
    Calls Tryd.prog 9 #[arrV b0 p0 x0.length c0 q0 y0.length d0, .int .i64 a1] w fun e w' => e = .returned (.bool true) ∧ Below w.heap.size w w' := by
  clear w1
  replace hT := Lib.hid hT
  by_cases hf : M.relFault ⟨b0, x0, y0⟩ = 0
  case neg =>
    have hrel := fun w h1 h2 => relFault_any b0 p0 q0 x0 y0 _ c0 _ d0 w h1 h2 l0 m0 rfl rfl
    have hfar := fun w h1 h2 h3 => far_any a1 b0 p0 q0 x0 y0 _ c0 _ d0 w h1 h2 l0 m0 rfl rfl h3
    have hr : M.far ⟨b0, x0, y0⟩ a1 = .error (M.relFault ⟨b0, x0, y0⟩) := if_neg hf
    generalize M.relFault ⟨b0, x0, y0⟩ = e0 at *
    have tz : (e0 == 0) = false := by rw [beq_eq_false_iff_ne]; exact hf
    have E := (((((Env.start w).add (f := laidF) hg).addRow s0).addRow r0).box b0 p0 x0.length c0 q0 y0.length d0)
    replace l0 := Lib.hid l0
    replace m0 := Lib.hid m0
    replace n0 := Lib.hid n0
    replace o0 := Lib.hid o0
    clear r0
    clear s0
    replace hrel := Lib.hid hrel
    replace hfar := Lib.hid hfar
    replace hr := Lib.hid hr
    replace hf := Lib.hid hf
    go_enter Tryd.func9, Tryd.ntmps9
    obtain ⟨⟨u0, u1, u2⟩, -, -, -⟩ := E.getBox 0 rfl
    go_wp2_with fail
    refine (hrel.out _ (E.getRow 1 rfl) (E.getRow 2 rfl)).mono ?_
    rintro e v20 ⟨rfl, hb⟩
    replace E := E.step hb
    clear hb
    clear u0 u1 u2
    obtain ⟨⟨u0, u1, u2⟩, -, -, -⟩ := E.getBox 0 rfl
    go_wp2_with fail
    refine (hfar.out _ (E.getRow 1 rfl) (E.getRow 2 rfl) (hT.out.below E.bel)).mono ?_
    intro e v21 hp
    obtain rfl := hp.1 _ hr.out
    replace E := E.step hp.2.2
    clear hp
    rw [← errV_ne hf.out]
    clear u0 u1 u2
    go_wp2_with fail
    refine (intsL_any none none [] [] 0 0 0 0 e0 e0 _ (E.laid 3 rfl) (Row.nil _ none) (Row.nil _ none) (by simp [maxLen]) (by simp [maxLen]) rfl rfl ⟨beq_self_eq_true _, decide_eq_true rfl⟩).mono ?_
    rintro e v22 ⟨rfl, hb⟩
    replace E := E.step hb
    clear hb
    go_wp2
    go_ret
    exact ⟨rfl, E.bel⟩
  case pos =>
    obtain ⟨n, hn, hb0, hx0, hD, hN, -, -⟩ := rel_parts hf
    dsimp only at hb0 hx0 hD
    subst hb0
    subst hx0
    clear l0 n0
    have hbs := r0 0 (by simp)
    obtain ⟨bs, os, rfl, hc0⟩ := hbs
    clear hc0
    dsimp only [List.length_cons, List.length_nil, Nat.zero_add, Nat.reduceAdd]
    have l0 : ([(n : Int), (n : Int)] : List Int).length ≤ maxLen := by simp [maxLen]
    have hrel := fun w h1 h2 => relFault_any false (some ⟨bs, os, none⟩) q0 [(n : Int), (n : Int)] y0 2 c0 _ d0 w h1 h2 l0 m0 rfl rfl
    have hfar := fun w h1 h2 h3 => far_any a1 false (some ⟨bs, os, none⟩) q0 [(n : Int), (n : Int)] y0 2 c0 _ d0 w h1 h2 l0 m0 rfl rfl h3
    rw [hf] at hrel
    have hr : M.far ⟨false, [(n : Int), (n : Int)], y0⟩ a1 = _ := if_pos hf
    rw [hN] at hr
    have hF := fun i j (hi : i < n) (hj : j < n) => (relE_in (ch := false) (d := y0) hi hj).symm
    generalize M.relE ⟨false, [(n : Int), (n : Int)], y0⟩ = F at *
    have E := ((((Env.start w).add (f := laidF) hg).addRow s0).addRow r0).box false (some ⟨bs, os, none⟩) 2 c0 q0 y0.length d0
    have tz : ((0 : Int) == 0) = true := rfl
    by_cases ho : a1 < 0 ∨ (n : Int) ≤ a1
    case pos =>
      rw [if_pos ho] at hr
      by_cases h0 : a1 < 0
      · skip
        have k0 : decide (a1 < 0) = true := decide_eq_true h0
        clear ho
        replace hrel := Lib.hid hrel
        replace hfar := Lib.hid hfar
        replace hr := Lib.hid hr
        replace hf := Lib.hid hf
        replace hD := Lib.hid hD
        replace hN := Lib.hid hN
        replace hF := Lib.hid hF
        replace l0 := Lib.hid l0
        replace m0 := Lib.hid m0
        replace o0 := Lib.hid o0
        clear r0 s0
        go_enter Tryd.func9, Tryd.ntmps9
        obtain ⟨⟨u0, u1, u2⟩, -, -, -⟩ := E.getBox 0 rfl
        go_wp2_with fail
        refine (hrel.out _ (E.getRow 1 rfl) (E.getRow 2 rfl)).mono ?_
        rintro e v23 ⟨rfl, hb⟩
        replace E := E.step hb
        clear hb
        clear u0 u1 u2
        have hc0 := E.getRow 1 rfl 0 (by simp)
        obtain ⟨_, _, ee, hc0⟩ := hc0
        cases ee
        simp only [List.getD_cons_zero, Nat.add_zero] at hc0
        obtain ⟨⟨u0, u1, u2⟩, -, -, -⟩ := E.getBox 0 rfl
        go_wp2_with fail
        refine (hfar.out _ (E.getRow 1 rfl) (E.getRow 2 rfl) (hT.out.below E.bel)).mono ?_
        intro e v24 hp
        obtain rfl := hp.1 _ hr.out
        replace E := E.step hp.2.2
        clear hp
        rw [← errV_ne (show (5 : Int) ≠ 0 by decide)]
        clear u0 u1 u2
        go_wp2_with fail
        refine (intsL_any none none [] [] 0 0 0 0 5 5 _ (E.laid 3 rfl) (Row.nil _ none) (Row.nil _ none) (by simp [maxLen]) (by simp [maxLen]) rfl rfl ⟨beq_self_eq_true _, decide_eq_true rfl⟩).mono ?_
        rintro e v25 ⟨rfl, hb⟩
        replace E := E.step hb
        clear hb
        go_wp2
        go_ret
        exact ⟨rfl, E.bel⟩
      · skip
        have k0 : decide (a1 < 0) = false := decide_eq_false h0
        have k1 : decide (a1 ≥ (n : Int)) = true := decide_eq_true (by omega)
        clear ho
        replace hrel := Lib.hid hrel
        replace hfar := Lib.hid hfar
        replace hr := Lib.hid hr
        replace hf := Lib.hid hf
        replace hD := Lib.hid hD
        replace hN := Lib.hid hN
        replace hF := Lib.hid hF
        replace l0 := Lib.hid l0
        replace m0 := Lib.hid m0
        replace o0 := Lib.hid o0
        clear r0 s0
        go_enter Tryd.func9, Tryd.ntmps9
        obtain ⟨⟨u0, u1, u2⟩, -, -, -⟩ := E.getBox 0 rfl
        go_wp2_with fail
        refine (hrel.out _ (E.getRow 1 rfl) (E.getRow 2 rfl)).mono ?_
        rintro e v26 ⟨rfl, hb⟩
        replace E := E.step hb
        clear hb
        clear u0 u1 u2
        have hc0 := E.getRow 1 rfl 0 (by simp)
        obtain ⟨_, _, ee, hc0⟩ := hc0
        cases ee
        simp only [List.getD_cons_zero, Nat.add_zero] at hc0
        obtain ⟨⟨u0, u1, u2⟩, -, -, -⟩ := E.getBox 0 rfl
        go_wp2_with fail
        refine (hfar.out _ (E.getRow 1 rfl) (E.getRow 2 rfl) (hT.out.below E.bel)).mono ?_
        intro e v27 hp
        obtain rfl := hp.1 _ hr.out
        replace E := E.step hp.2.2
        clear hp
        rw [← errV_ne (show (5 : Int) ≠ 0 by decide)]
        clear u0 u1 u2
        go_wp2_with fail
        refine (intsL_any none none [] [] 0 0 0 0 5 5 _ (E.laid 3 rfl) (Row.nil _ none) (Row.nil _ none) (by simp [maxLen]) (by simp [maxLen]) rfl rfl ⟨beq_self_eq_true _, decide_eq_true rfl⟩).mono ?_
        rintro e v28 ⟨rfl, hb⟩
        replace E := E.step hb
        clear hb
        go_wp2
        go_ret
        exact ⟨rfl, E.bel⟩
    case neg =>
      rw [if_neg ho] at hr
      obtain ⟨O, rfl⟩ : ∃ O : Nat, a1 = O := ⟨a1.toNat, by omega⟩
      rw [Int.toNat_natCast] at hr
      have hO : O < n := by omega
      clear ho
      have hdo := fun w h => (refDist_any n O F q0 y0 y0.length d0 w h hn hO hD hF rfl).mono fun e w' hp => hp.row
      have hCl := farUp_length n F O n
      generalize farUp n F O n = C at *
      have hCm : C.length ≤ maxLen := by rw [hCl]; unfold maxLen; omega
      have k0 : decide ((O : Int) < 0) = false := decide_eq_false (by omega)
      have k1 : decide ((O : Int) ≥ (n : Int)) = false := decide_eq_false (by omega)
      have k2' : decide (n ≤ O) = false := decide_eq_false (by omega)
      replace hCl := Lib.hid hCl
      replace hCm := Lib.hid hCm
      replace hdo := Lib.hid hdo
      replace hrel := Lib.hid hrel
      replace hfar := Lib.hid hfar
      replace hr := Lib.hid hr
      replace hf := Lib.hid hf
      replace hD := Lib.hid hD
      replace hN := Lib.hid hN
      replace hF := Lib.hid hF
      replace l0 := Lib.hid l0
      replace m0 := Lib.hid m0
      replace o0 := Lib.hid o0
      clear r0 s0
      go_enter Tryd.func9, Tryd.ntmps9
      obtain ⟨⟨u0, u1, u2⟩, -, -, -⟩ := E.getBox 0 rfl
      go_wp2_with fail
      refine (hrel.out _ (E.getRow 1 rfl) (E.getRow 2 rfl)).mono ?_
      rintro e v29 ⟨rfl, hb⟩
      replace E := E.step hb
      clear hb
      clear u0 u1 u2
      have hc0 := E.getRow 1 rfl 0 (by simp)
      obtain ⟨_, _, ee, hc0⟩ := hc0
      cases ee
      simp only [List.getD_cons_zero, Nat.add_zero] at hc0
      obtain ⟨⟨u0, u1, u2⟩, -, -, -⟩ := E.getBox 0 rfl
      have SS : (v29.drew.cell? ⟨w.heap.size, 0, none⟩ = some (.bool false) ∧ v29.drew.cell? ⟨w.heap.size, 1, none⟩ = some (.slice (some ⟨bs, os, none⟩) 2 c0) ∧ v29.drew.cell? ⟨w.heap.size, 2, none⟩ = some (.slice q0 y0.length d0)) ∧ v29.drew.cell? ⟨bs, os, none⟩ = some (.int .i64 (n : Int)) := ⟨(E.getBox 0 rfl).1, hc0⟩
      have rD : Row v29.drew q0 y0 := (E.getRow 2 rfl)
      go_upto_region 6 with fail
      clear u0 u1 u2
      clear hc0
      go_region_held3 (fun w' => (w'.cell? ⟨w.heap.size, 0, none⟩ = some (.bool false) ∧ w'.cell? ⟨w.heap.size, 1, none⟩ = some (.slice (some ⟨bs, os, none⟩) 2 c0) ∧ w'.cell? ⟨w.heap.size, 2, none⟩ = some (.slice q0 y0.length d0)) ∧ w'.cell? ⟨bs, os, none⟩ = some (.int .i64 (n : Int)))
        (first | assumption | (exact held4 hb8 (by assumption)) | go_keep)
        (first
          | (go_at_call 40; refine (hdo.out _ rD).mono ?_; rintro e v8 ⟨aW, kW, rfl, rW8, hb8⟩))
      replace E := ((E.drew 1).step hb8).addRow rW8
      clear SS rD rW8 hb8
      obtain ⟨⟨u0, u1, u2⟩, -, -, -⟩ := E.getBox 1 rfl
      go_wp2_with fail
      refine (hfar.out _ (E.getRow 2 rfl) (E.getRow 3 rfl) (hT.out.below E.bel)).mono ?_
      intro e v30 hp
      obtain ⟨aD, kD, rfl, rD, hb⟩ := hp.is_ok hr.out
      clear hp
      replace E := (E.step hb).addRow rD
      clear hb rD
      clear u0 u1 u2
      go_wp2_with fail
      refine (intsL_any aD aW C C _ n kD kW 0 0 _ (E.laid 5 rfl) (E.getRow 0 rfl) (E.getRow 1 rfl) hCm.out hCm.out rfl hCl.out.symm ⟨beq_self_eq_true _, decide_eq_true rfl⟩).mono ?_
      rintro e v31 ⟨rfl, hb⟩
      replace E := E.step hb
      clear hb
      go_wp2
      go_ret
      exact ⟨rfl, E.bel⟩
end Go.Proofs.YtiebknfmmanbiaaDoor
