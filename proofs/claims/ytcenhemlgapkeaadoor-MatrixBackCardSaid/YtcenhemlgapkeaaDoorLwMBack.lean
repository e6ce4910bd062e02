/- The walk of the law MatrixBack: it returns true at all arrays. Condition: the library's one variable is laid. -/
import Derived.Deep.RegionHeld3
import Derived.Deep.Cut
import Derived.Test.YtcenhemlgapkeaaDoorWkMInv
import Derived.Test.YtcenhemlgapkeaaDoorBdW
import Derived.Test.YtcenhemlgapkeaaDoorBackPlain
import Derived.Test.YtcenhemlgapkeaaDoorWkMDet
import Derived.Test.YtcenhemlgapkeaaDoorWkInner
import Derived.Test.YtcenhemlgapkeaaDoorWkAlike
import Derived.Test.YtcenhemlgapkeaaDoorDiag
import Derived.Test.YtcenhemlgapkeaaDoorBdU
namespace Go.Proofs.YtcenhemlgapkeaaDoor
open Go.RowKit

theorem odd_tmod {d : Int} (h : d % 2 = 1) : ¬ d.tmod 2 = 0 := fun e => by
  have := Int.emod_eq_zero_of_dvd (Int.dvd_of_tmod_eq_zero e)
  omega

set_option maxRecDepth 20000 in
set_option maxHeartbeats 16000000 in
theorem matrixBack_walk (b0 : Bool) (p0 q0 : Option Addr) (x0 y0 : List Int) (c0 d0 : Nat) (w : World) (r0 : Row w p0 x0) (s0 : Row w q0 y0) (l0 : x0.length ≤ maxLen) (m0 : y0.length ≤ maxLen) (n0 : All64 x0) (o0 : All64 y0) (cu0 : x0.length ≤ c0) (cz0 : y0.length ≤ d0) (hg : Laid w) :
    Calls Tryd.prog 11 #[arrV b0 p0 x0.length c0 q0 y0.length d0] w fun e w' => e = .returned (.bool true) ∧ Below w.heap.size w w' := by
  have hsa := fun w h => isSq_any b0 p0 q0 x0 y0 _ c0 _ d0 w h l0 m0 rfl rfl
  cases hqa : M.isSq ⟨b0, x0, y0⟩ with
  | false =>
    have E := (((((Env.start w).add (f := laidF) hg).addRow s0).addRow r0).box b0 p0 x0.length c0 q0 y0.length d0)
    replace l0 := Lib.hid l0
    replace m0 := Lib.hid m0
    replace n0 := Lib.hid n0
    replace o0 := Lib.hid o0
    replace cu0 := Lib.hid cu0
    replace cz0 := Lib.hid cz0
    clear r0
    clear s0
    replace hsa := Lib.hid hsa
    replace hqa := Lib.hid hqa
    go_enter Tryd.func11, Tryd.ntmps11
    go_wp2_with fail
    refine (fact_any _).mono ?_
    rintro e v1 ⟨rfl, hb⟩
    replace E := E.step hb
    clear hb
    obtain ⟨⟨u0, u1, u2⟩, -, -, -⟩ := E.getBox 0 rfl
    go_wp2_with fail
    refine (hsa.out _ (E.getRow 1 rfl)).mono ?_
    rintro e v2 ⟨rfl, hb⟩
    rw [hqa.out]
    replace E := E.step hb
    clear hb
    clear u0 u1 u2
    go_wp2
    go_ret
    exact ⟨rfl, E.bel⟩
  | true =>
    obtain ⟨n, hn, hx, hd⟩ := isSq_parts hqa
    rw [Arr.mk.injEq] at hx
    obtain ⟨rfl, rfl, -⟩ := hx
    dsimp only at hd
    have hbs := r0 0 (by simp)
    obtain ⟨bs, os, rfl, hc0⟩ := hbs
    clear hc0
    dsimp only [List.length_cons, List.length_nil, Nat.zero_add, Nat.reduceAdd] at cu0 ⊢
    have lS : ([(n : Int), (n : Int)] : List Int).length ≤ maxLen := by simp [maxLen]
    have hf := sq_mk hn hd
    have hdet := fun w h1 h2 => lawDet_any n (some ⟨bs, os, none⟩) q0 y0 2 c0 y0.length d0 w h1 h2 m0 o0 hn hd rfl rfl
    have hinv := fun w h1 h2 => minv_any false (some ⟨bs, os, none⟩) q0 [(n : Int), (n : Int)] y0 2 c0 _ d0 w h1 h2 lS m0 o0 rfl rfl
    by_cases ho : (sdet n y0).tmod 2 = 0
    case pos =>
      have hr : M.minv ⟨false, [(n : Int), (n : Int)], y0⟩ = .error 6 := (if_neg (fun h => h hf)).trans (if_pos ho)
      have t2 : ((sdet n y0).tmod 2 == 0) = true := by rw [beq_iff_eq]; exact ho
      have t6 : ((6 : Int) == 6) = true := rfl
      generalize sdet n y0 = dd at *
      clear ho hn
      have E := ((((Env.start w).add (f := laidF) hg).addRow s0).addRow r0).box false (some ⟨bs, os, none⟩) 2 c0 q0 y0.length d0
      replace hsa := Lib.hid hsa
      replace hqa := Lib.hid hqa
      replace hf := Lib.hid hf
      replace hd := Lib.hid hd
      replace hdet := Lib.hid hdet
      replace hinv := Lib.hid hinv
      replace l0 := Lib.hid l0
      replace lS := Lib.hid lS
      replace m0 := Lib.hid m0
      replace o0 := Lib.hid o0
      replace cu0 := Lib.hid cu0
      replace hr := Lib.hid hr
      clear r0 s0
      go_enter Tryd.func11, Tryd.ntmps11
      go_wp2_with fail
      refine (fact_any _).mono ?_
      rintro e v3 ⟨rfl, hb⟩
      replace E := E.step hb
      clear hb
      obtain ⟨⟨u0, u1, u2⟩, -, -, -⟩ := E.getBox 0 rfl
      go_wp2_with fail
      refine (hsa.out _ (E.getRow 1 rfl)).mono ?_
      rintro e v4 ⟨rfl, hb⟩
      rw [hqa.out]
      replace E := E.step hb
      clear hb
      clear u0 u1 u2
      obtain ⟨⟨u0, u1, u2⟩, -, -, -⟩ := E.getBox 0 rfl
      go_wp2_with fail
      refine (hinv.out _ (E.getRow 1 rfl) (E.getRow 2 rfl)).mono ?_
      intro e v5 hp
      obtain ⟨rfl, hb⟩ := hp.is_error hr.out
      replace E := E.step hb
      clear hp hb
      clear u0 u1 u2
      replace E := ((E.addRow (Row.nil _ none)).addRow (Row.nil _ none)).box false none 0 0 none 0 0
      try simp only [World.size_alloc] at E
      go_wp2_with fail
      rw [← errV_ne (show (6 : Int) ≠ 0 by decide)]
      refine (error_any 6 6 _ (E.laid 6 rfl)).mono ?_
      rintro e v6 ⟨rfl, hb⟩
      rw [t6]
      replace E := E.step hb
      clear hb
      obtain ⟨⟨u0, u1, u2⟩, -, -, -⟩ := E.getBox 3 rfl
      go_wp2_with fail
      refine (hdet.out _ (E.getRow 4 rfl) (E.getRow 5 rfl)).mono ?_
      rintro e v7 ⟨rfl, hb⟩
      replace E := E.step hb
      clear hb
      clear u0 u1 u2
      go_wp2
      go_ret
      exact ⟨rfl, E.bel⟩
    case neg =>
      have ho2 : wrap64 (Mx.det n (M.sqA n y0)) % 2 = 1 := tmod_odd ho
      have hm1 : M.minv ⟨false, [(n : Int), (n : Int)], y0⟩ = .ok ⟨false, [(n : Int), (n : Int)], sqList n (invM n (M.sqA n y0))⟩ := (if_neg (fun h => h hf)).trans (if_neg ho)
      have hI1 := back_r hn hd ho2
      have hI2 := back_l hn hd ho2
      have hl1 := sqList_length n (invM n (M.sqA n y0))
      have hL64 := sqList_i64 n (invM n (M.sqA n y0))
      have ho3 := odd_back (n := n) (M.sqA n y0) ho2
      have hf2 := sq_mk hn hl1
      have hii := inv_inv hd o0 ho2
      have hm2 : M.minv ⟨false, [(n : Int), (n : Int)], sqList n (invM n (M.sqA n y0))⟩ = .ok ⟨false, [(n : Int), (n : Int)], y0⟩ := (if_neg (fun h => h hf2)).trans ((if_neg (odd_tmod ho3)).trans (congrArg (fun L => Except.ok (⟨false, [(n : Int), (n : Int)], L⟩ : Arr)) hii))
      have hLm : (sqList n (invM n (M.sqA n y0))).length ≤ maxLen := by rw [hl1, ← hd]; exact m0
      have t2 : ((sdet n y0).tmod 2 != 0) = true := by rw [bne_iff_ne]; exact ho
      have hdl := diagL_length n 1
      have hdm : (diagL n 1).length ≤ maxLen := by rw [hdl, ← hd]; exact m0
      have hdia := fun a b m c k z w h1 h2 em en => diagonal_any n 1 a b m c k z w h1 h2 hn em en
      clear ho2 ho3 hf2 hii ho
      generalize sqList n (invM n (M.sqA n y0)) = L at *
      generalize diagL n 1 = DL at *
      generalize sdet n y0 = dd at *
      clear hn
      have E := ((((Env.start w).add (f := laidF) hg).addRow s0).addRow r0).box false (some ⟨bs, os, none⟩) 2 c0 q0 y0.length d0
      replace hsa := Lib.hid hsa
      replace hqa := Lib.hid hqa
      replace hf := Lib.hid hf
      replace hd := Lib.hid hd
      replace hdet := Lib.hid hdet
      replace hinv := Lib.hid hinv
      replace l0 := Lib.hid l0
      replace lS := Lib.hid lS
      replace m0 := Lib.hid m0
      replace o0 := Lib.hid o0
      replace cu0 := Lib.hid cu0
      replace hm1 := Lib.hid hm1
      replace hm2 := Lib.hid hm2
      replace hI1 := Lib.hid hI1
      replace hI2 := Lib.hid hI2
      replace hl1 := Lib.hid hl1
      replace hL64 := Lib.hid hL64
      replace hLm := Lib.hid hLm
      replace hdl := Lib.hid hdl
      replace hdm := Lib.hid hdm
      replace hdia := Lib.hid hdia
      clear r0 s0
      go_enter Tryd.func11, Tryd.ntmps11
      go_wp2_with fail
      refine (fact_any _).mono ?_
      rintro e v8 ⟨rfl, hb⟩
      replace E := E.step hb
      clear hb
      obtain ⟨⟨u0, u1, u2⟩, -, -, -⟩ := E.getBox 0 rfl
      go_wp2_with fail
      refine (hsa.out _ (E.getRow 1 rfl)).mono ?_
      rintro e v9 ⟨rfl, hb⟩
      rw [hqa.out]
      replace E := E.step hb
      clear hb
      clear u0 u1 u2
      obtain ⟨⟨u0, u1, u2⟩, -, -, -⟩ := E.getBox 0 rfl
      go_wp2_with fail
      refine (hinv.out _ (E.getRow 1 rfl) (E.getRow 2 rfl)).mono ?_
      intro e v10 hp
      obtain ⟨aB, cB, eB, kB, rfl, ra, rb, -, -, hcB, hb⟩ := hp.is_ok hm1.out
      clear hp
      clear u0 u1 u2
      dsimp only [List.length_cons, List.length_nil, Nat.reduceAdd] at ra rb hcB ⊢
      replace E := (((E.step hb).addRow rb).addRow ra).box false aB 2 cB eB L.length kB
      clear ra rb hb
      obtain ⟨⟨u0, u1, u2⟩, -, -, -⟩ := E.getBox 3 rfl
      obtain ⟨⟨t0, t1, t2⟩, -, -, -⟩ := E.getBox 0 rfl
      go_wp2_with fail
      refine (inner_num 1 3 ⟨0, rfl⟩ false false rfl rfl (some ⟨bs, os, none⟩) q0 aB eB [(n : Int), (n : Int)] y0 [(n : Int), (n : Int)] L 2 c0 _ d0 2 cB _ kB _ (E.getRow 4 rfl) (E.getRow 5 rfl) lS.out m0.out o0.out cu0.out rfl rfl (E.getRow 1 rfl) (E.getRow 2 rfl) lS.out hLm.out hL64.out hcB rfl rfl).mono ?_
      intro e v11 hp
      obtain ⟨aX, cX, eX, kX, rfl, ra, rb, -, -, hcX, hb⟩ := hp.is_ok hI1.out
      clear hp
      clear u0 u1 u2 t0 t1 t2
      dsimp only [List.length_cons, List.length_nil, Nat.reduceAdd] at ra rb hcX ⊢
      replace E := (((E.step hb).addRow rb).addRow ra).box false aX 2 cX eX DL.length kX
      clear ra rb hb
      obtain ⟨⟨u0, u1, u2⟩, -, -, -⟩ := E.getBox 3 rfl
      obtain ⟨⟨t0, t1, t2⟩, -, -, -⟩ := E.getBox 6 rfl
      go_wp2_with fail
      refine (inner_num 1 3 ⟨0, rfl⟩ false false rfl rfl aB eB (some ⟨bs, os, none⟩) q0 [(n : Int), (n : Int)] L [(n : Int), (n : Int)] y0 2 cB _ kB 2 c0 _ d0 _ (E.getRow 4 rfl) (E.getRow 5 rfl) lS.out hLm.out hL64.out hcB rfl rfl (E.getRow 7 rfl) (E.getRow 8 rfl) lS.out m0.out o0.out cu0.out rfl rfl).mono ?_
      intro e v12 hp
      obtain ⟨aY, cY, eY, kY, rfl, ra, rb, -, -, hcY, hb⟩ := hp.is_ok hI2.out
      clear hp
      clear u0 u1 u2 t0 t1 t2
      dsimp only [List.length_cons, List.length_nil, Nat.reduceAdd] at ra rb hcY ⊢
      replace E := (((E.step hb).addRow rb).addRow ra).box false aY 2 cY eY DL.length kY
      clear ra rb hb
      obtain ⟨⟨u0, u1, u2⟩, -, -, -⟩ := E.getBox 6 rfl
      go_wp2_with fail
      refine (minv_any false aB eB [(n : Int), (n : Int)] L 2 cB _ kB _ (E.getRow 7 rfl) (E.getRow 8 rfl) lS.out hLm.out hL64.out rfl rfl).mono ?_
      intro e v13 hp
      obtain ⟨aC, cC, eC, kC, rfl, ra, rb, -, -, hcC, hb⟩ := hp.is_ok hm2.out
      clear hp
      clear u0 u1 u2
      dsimp only [List.length_cons, List.length_nil, Nat.reduceAdd] at ra rb hcC ⊢
      replace E := (((E.step hb).addRow rb).addRow ra).box false aC 2 cC eC y0.length kC
      clear ra rb hb
      obtain ⟨⟨u0, u1, u2⟩, -, -, -⟩ := E.getBox 0 rfl
      obtain ⟨⟨t0, t1, t2⟩, -, -, -⟩ := E.getBox 12 rfl
      go_wp2_with fail
      refine (alike_any false false aC eC (some ⟨bs, os, none⟩) q0 [(n : Int), (n : Int)] y0 [(n : Int), (n : Int)] y0 2 cC _ kC 2 c0 _ d0 _ (E.getRow 1 rfl) (E.getRow 2 rfl) lS.out m0.out rfl rfl (E.getRow 13 rfl) (E.getRow 14 rfl) lS.out m0.out rfl rfl).mono ?_
      rintro e v14 ⟨rfl, hb⟩
      rw [decide_eq_true (rfl : (⟨false, [(n : Int), (n : Int)], y0⟩ : Arr) = ⟨false, [(n : Int), (n : Int)], y0⟩)]
      replace E := E.step hb
      clear hb
      clear u0 u1 u2 t0 t1 t2
      have hc0 := E.getRow 13 rfl 0 (by simp)
      obtain ⟨_, _, ee, hc0⟩ := hc0
      cases ee
      simp only [List.getD_cons_zero, Nat.add_zero] at hc0
      have SS : (v14.drew.cell? ⟨v11.heap.size, 0, none⟩ = some (.bool false) ∧ v14.drew.cell? ⟨v11.heap.size, 1, none⟩ = some (.slice aX 2 cX) ∧ v14.drew.cell? ⟨v11.heap.size, 2, none⟩ = some (.slice eX DL.length kX)) ∧ (v14.drew.cell? ⟨w.heap.size, 0, none⟩ = some (.bool false) ∧ v14.drew.cell? ⟨w.heap.size, 1, none⟩ = some (.slice (some ⟨bs, os, none⟩) 2 c0) ∧ v14.drew.cell? ⟨w.heap.size, 2, none⟩ = some (.slice q0 y0.length d0)) ∧ v14.drew.cell? ⟨bs, os, none⟩ = some (.int .i64 (n : Int)) := ⟨(E.getBox 6 rfl).1, (E.getBox 12 rfl).1, hc0⟩
      have rX : Row v14.drew aX [(n : Int), (n : Int)] := (E.getRow 7 rfl)
      have rY : Row v14.drew eX DL := (E.getRow 8 rfl)
      clear hc0
      go_upto_region 15 with fail
      go_region_held3 (fun w' => (w'.cell? ⟨v11.heap.size, 0, none⟩ = some (.bool false) ∧ w'.cell? ⟨v11.heap.size, 1, none⟩ = some (.slice aX 2 cX) ∧ w'.cell? ⟨v11.heap.size, 2, none⟩ = some (.slice eX DL.length kX)) ∧ (w'.cell? ⟨w.heap.size, 0, none⟩ = some (.bool false) ∧ w'.cell? ⟨w.heap.size, 1, none⟩ = some (.slice (some ⟨bs, os, none⟩) 2 c0) ∧ w'.cell? ⟨w.heap.size, 2, none⟩ = some (.slice q0 y0.length d0)) ∧ w'.cell? ⟨bs, os, none⟩ = some (.int .i64 (n : Int)))
        (first | assumption | (exact held7 hb98 (by assumption)) | go_keep)
        (first
          | (go_at_call 41; refine (hdia.out aX eX 2 cX _ kX _ rX rY rfl hdl.out).mono ?_; rintro e v98 ⟨rfl, hb98⟩))
      replace E := (E.drew 1).step hb98
      clear SS rX rY hb98
      have hc0 := E.getRow 13 rfl 0 (by simp)
      obtain ⟨_, _, ee, hc0⟩ := hc0
      cases ee
      simp only [List.getD_cons_zero, Nat.add_zero] at hc0
      have SS : (v98.drew.cell? ⟨v12.heap.size, 0, none⟩ = some (.bool false) ∧ v98.drew.cell? ⟨v12.heap.size, 1, none⟩ = some (.slice aY 2 cY) ∧ v98.drew.cell? ⟨v12.heap.size, 2, none⟩ = some (.slice eY DL.length kY)) ∧ (v98.drew.cell? ⟨w.heap.size, 0, none⟩ = some (.bool false) ∧ v98.drew.cell? ⟨w.heap.size, 1, none⟩ = some (.slice (some ⟨bs, os, none⟩) 2 c0) ∧ v98.drew.cell? ⟨w.heap.size, 2, none⟩ = some (.slice q0 y0.length d0)) ∧ v98.drew.cell? ⟨bs, os, none⟩ = some (.int .i64 (n : Int)) := ⟨(E.getBox 3 rfl).1, (E.getBox 12 rfl).1, hc0⟩
      have rX : Row v98.drew aY [(n : Int), (n : Int)] := (E.getRow 4 rfl)
      have rY : Row v98.drew eY DL := (E.getRow 5 rfl)
      clear hc0
      go_upto_region 16 with fail
      go_region_held3 (fun w' => (w'.cell? ⟨v12.heap.size, 0, none⟩ = some (.bool false) ∧ w'.cell? ⟨v12.heap.size, 1, none⟩ = some (.slice aY 2 cY) ∧ w'.cell? ⟨v12.heap.size, 2, none⟩ = some (.slice eY DL.length kY)) ∧ (w'.cell? ⟨w.heap.size, 0, none⟩ = some (.bool false) ∧ w'.cell? ⟨w.heap.size, 1, none⟩ = some (.slice (some ⟨bs, os, none⟩) 2 c0) ∧ w'.cell? ⟨w.heap.size, 2, none⟩ = some (.slice q0 y0.length d0)) ∧ w'.cell? ⟨bs, os, none⟩ = some (.int .i64 (n : Int)))
        (first | assumption | (exact held7 hb99 (by assumption)) | go_keep)
        (first
          | (go_at_call 41; refine (hdia.out aY eY 2 cY _ kY _ rX rY rfl hdl.out).mono ?_; rintro e v99 ⟨rfl, hb99⟩))
      replace E := (E.drew 1).step hb99
      clear SS rX rY hb99
      obtain ⟨⟨u0, u1, u2⟩, -, -, -⟩ := E.getBox 12 rfl
      go_wp2_with fail
      refine (hdet.out _ (E.getRow 13 rfl) (E.getRow 14 rfl)).mono ?_
      rintro e v15 ⟨rfl, hb⟩
      replace E := E.step hb
      clear hb
      clear u0 u1 u2
      go_wp2
      go_ret
      exact ⟨rfl, E.bel⟩
end Go.Proofs.YtcenhemlgapkeaaDoor
