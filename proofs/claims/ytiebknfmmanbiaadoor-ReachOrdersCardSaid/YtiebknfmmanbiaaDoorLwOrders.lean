/- The walk of the law ReachOrders: it returns true at all arrays. Condition: the library's one variable is laid. -/
import Derived.Test.YtiebknfmmanbiaaDoorLwCloses
import Derived.Test.YtiebknfmmanbiaaDoorWkOrder
import Derived.Test.YtiebknfmmanbiaaDoorRefOrdered
namespace Go.Proofs.YtiebknfmmanbiaaDoor
open Go.RowKit


theorem OrdPost.full {n : Nat} {F : Nat → Nat → Bool} {w w' : World} {e : Ending} (h : OrdPost n F w e w') (hf : (Re.ordK n F n).length = n) :
    ∃ a k, e = .returned (.tuple #[.slice a (M.ordL n F n).length k, .bool true]) ∧ Row w' a (M.ordL n F n) ∧ Below w.heap.size w w' := by
  obtain ⟨v, h1, h2⟩ := h.1 hf
  obtain ⟨a, k, rfl, -, -, q⟩ := h2.view
  exact ⟨a, k, h1, q, h.2.2⟩

set_option maxRecDepth 20000 in
set_option maxHeartbeats 16000000 in
theorem reachOrders_walk (b0 : Bool) (p0 q0 : Option Addr) (x0 y0 : List Int) (c0 d0 : Nat) (w : World) (r0 : Row w p0 x0) (s0 : Row w q0 y0) (l0 : x0.length ≤ maxLen) (m0 : y0.length ≤ maxLen) (n0 : All64 x0) (o0 : All64 y0) (hg : Laid w) :
    Calls Tryd.prog 7 #[arrV b0 p0 x0.length c0 q0 y0.length d0] w fun e w' => e = .returned (.bool true) ∧ Below w.heap.size w w' := by
  by_cases hf : M.relFault ⟨b0, x0, y0⟩ = 0
  case neg =>
    have hrel := fun w h1 h2 => relFault_any b0 p0 q0 x0 y0 _ c0 _ d0 w h1 h2 l0 m0 rfl rfl
    have hord := fun w h1 h2 => order_any b0 p0 q0 x0 y0 _ c0 _ d0 w h1 h2 l0 m0 rfl rfl
    have hr : M.order ⟨b0, x0, y0⟩ = .error (M.relFault ⟨b0, x0, y0⟩) := if_neg hf
    generalize M.relFault ⟨b0, x0, y0⟩ = e0 at *
    have tz : (e0 == 0) = false := by rw [beq_eq_false_iff_ne]; exact hf
    have E := (((((Env.start w).add (f := laidF) hg).addRow s0).addRow r0).box b0 p0 x0.length c0 q0 y0.length d0)
    replace l0 := Lib.hid l0
    replace m0 := Lib.hid m0
    replace n0 := Lib.hid n0
    replace o0 := Lib.hid o0
    clear r0
    clear s0
    replace hrel := Lib.hid hrel
    replace hord := Lib.hid hord
    replace hr := Lib.hid hr
    replace hf := Lib.hid hf
    go_enter Tryd.func7, Tryd.ntmps7
    obtain ⟨⟨u0, u1, u2⟩, -, -, -⟩ := E.getBox 0 rfl
    go_wp2_with fail
    refine (hrel.out _ (E.getRow 1 rfl) (E.getRow 2 rfl)).mono ?_
    rintro e v11 ⟨rfl, hb⟩
    replace E := E.step hb
    clear hb
    clear u0 u1 u2
    obtain ⟨⟨u0, u1, u2⟩, -, -, -⟩ := E.getBox 0 rfl
    go_wp2_with fail
    refine (hord.out _ (E.getRow 1 rfl) (E.getRow 2 rfl)).mono ?_
    intro e v12 hp
    obtain rfl := hp.1 _ hr.out
    replace E := E.step hp.2.2
    clear hp
    rw [← errV_ne hf.out]
    clear u0 u1 u2
    go_wp2_with fail
    refine (intsL_any none none [] [] 0 0 0 0 e0 e0 _ (E.laid 3 rfl) (Row.nil _ none) (Row.nil _ none) (by simp [maxLen]) (by simp [maxLen]) rfl rfl ⟨beq_self_eq_true _, decide_eq_true rfl⟩).mono ?_
    rintro e v13 ⟨rfl, hb⟩
    replace E := E.step hb
    clear hb
    go_wp2
    go_ret
    exact ⟨rfl, E.bel⟩
  case pos =>
    obtain ⟨n, hn, hb0, hx0, hD, -, -, -⟩ := rel_parts hf
    dsimp only at hb0 hx0 hD
    subst hb0
    subst hx0
    clear l0 n0
    have hbs := r0 0 (by simp)
    obtain ⟨bs, os, rfl, hc0⟩ := hbs
    clear hc0
    dsimp only [List.length_cons, List.length_nil, Nat.zero_add, Nat.reduceAdd]
    have l0 : ([(n : Int), (n : Int)] : List Int).length ≤ maxLen := by simp [maxLen]
    have hrel := fun w h1 h2 => relFault_any false (some ⟨bs, os, none⟩) q0 [(n : Int), (n : Int)] y0 2 c0 _ d0 w h1 h2 l0 m0 rfl rfl
    have hord := fun w h1 h2 => order_any false (some ⟨bs, os, none⟩) q0 [(n : Int), (n : Int)] y0 2 c0 _ d0 w h1 h2 l0 m0 rfl rfl
    rw [hf] at hrel
    have hr : M.order ⟨false, [(n : Int), (n : Int)], y0⟩ = (if (Re.ordK n (M.relE ⟨false, [(n : Int), (n : Int)], y0⟩) n).length = n then .ok (M.ordL n (M.relE ⟨false, [(n : Int), (n : Int)], y0⟩) n) else .error 9) := if_pos hf
    have hF := fun i j (hi : i < n) (hj : j < n) => (relE_in (ch := false) (d := y0) hi hj).symm
    generalize M.relE ⟨false, [(n : Int), (n : Int)], y0⟩ = F at *
    have hdo := fun w h => refOrdered_any n F q0 y0 y0.length d0 w h hn hD hF rfl
    have E := ((((Env.start w).add (f := laidF) hg).addRow s0).addRow r0).box false (some ⟨bs, os, none⟩) 2 c0 q0 y0.length d0
    have tz : ((0 : Int) == 0) = true := rfl
    by_cases hfl : (Re.ordK n F n).length = n
    case pos =>
      rw [if_pos hfl] at hr
      have hCl : (M.ordL n F n).length ≤ maxLen := by unfold M.ordL; rw [List.length_map, hfl]; unfold maxLen; omega
      have hdf := fun w h => (hdo w h).mono fun e w' hp => hp.full hfl
      clear hdo
      have hdo := hdf
      clear hdf
      generalize M.ordL n F n = C at *
      replace hCl := Lib.hid hCl
      replace hfl := Lib.hid hfl
      clear hn
      replace hrel := Lib.hid hrel
      replace hord := Lib.hid hord
      replace hr := Lib.hid hr
      replace hf := Lib.hid hf
      replace hD := Lib.hid hD
      replace hF := Lib.hid hF
      replace hdo := Lib.hid hdo
      replace l0 := Lib.hid l0
      replace m0 := Lib.hid m0
      replace o0 := Lib.hid o0
      clear r0 s0
      go_enter Tryd.func7, Tryd.ntmps7
      obtain ⟨⟨u0, u1, u2⟩, -, -, -⟩ := E.getBox 0 rfl
      go_wp2_with fail
      refine (hrel.out _ (E.getRow 1 rfl) (E.getRow 2 rfl)).mono ?_
      rintro e v14 ⟨rfl, hb⟩
      replace E := E.step hb
      clear hb
      clear u0 u1 u2
      have hc0 := E.getRow 1 rfl 0 (by simp)
      obtain ⟨_, _, ee, hc0⟩ := hc0
      cases ee
      simp only [List.getD_cons_zero, Nat.add_zero] at hc0
      have SS : (v14.drew.cell? ⟨w.heap.size, 0, none⟩ = some (.bool false) ∧ v14.drew.cell? ⟨w.heap.size, 1, none⟩ = some (.slice (some ⟨bs, os, none⟩) 2 c0) ∧ v14.drew.cell? ⟨w.heap.size, 2, none⟩ = some (.slice q0 y0.length d0)) ∧ v14.drew.cell? ⟨bs, os, none⟩ = some (.int .i64 (n : Int)) := ⟨(E.getBox 0 rfl).1, hc0⟩
      have rD : Row v14.drew q0 y0 := (E.getRow 2 rfl)
      clear hc0
      go_upto_region 4 with fail
      go_region_held3 (fun w' => (w'.cell? ⟨w.heap.size, 0, none⟩ = some (.bool false) ∧ w'.cell? ⟨w.heap.size, 1, none⟩ = some (.slice (some ⟨bs, os, none⟩) 2 c0) ∧ w'.cell? ⟨w.heap.size, 2, none⟩ = some (.slice q0 y0.length d0)) ∧ w'.cell? ⟨bs, os, none⟩ = some (.int .i64 (n : Int)))
        (first | assumption | (exact held4 hb8 (by assumption)) | go_keep)
        (first
          | (go_at_call 35; refine (hdo.out _ rD).mono ?_; intro e v8 hp; obtain ⟨aW, kW, rfl, rW8, hb8⟩ := hp))
      replace E := ((E.drew 1).step hb8).addRow rW8
      clear SS rD rW8 hb8
      obtain ⟨⟨u0, u1, u2⟩, -, -, -⟩ := E.getBox 1 rfl
      go_wp2_with fail
      refine (hord.out _ (E.getRow 2 rfl) (E.getRow 3 rfl)).mono ?_
      intro e v15 hp
      obtain ⟨aD, kD, rfl, rD, hb⟩ := hp.is_ok hr.out
      clear hp
      replace E := (E.step hb).addRow rD
      clear hb rD
      clear u0 u1 u2
      go_wp2_with fail
      refine (intsL_any aD aW C C _ _ kD kW 0 0 _ (E.laid 5 rfl) (E.getRow 0 rfl) (E.getRow 1 rfl) hCl.out hCl.out rfl rfl ⟨beq_self_eq_true _, decide_eq_true rfl⟩).mono ?_
      rintro e v16 ⟨rfl, hb⟩
      replace E := E.step hb
      clear hb
      go_wp2
      go_ret
      exact ⟨rfl, E.bel⟩
    case neg =>
      rw [if_neg hfl] at hr
      have hdf := fun w h => (hdo w h).mono fun e w' hp => And.intro (hp.2.1 hfl) hp.2.2
      clear hdo
      have hdo := hdf
      clear hdf
      replace hfl := Lib.hid hfl
      clear hn
      replace hrel := Lib.hid hrel
      replace hord := Lib.hid hord
      replace hr := Lib.hid hr
      replace hf := Lib.hid hf
      replace hD := Lib.hid hD
      replace hF := Lib.hid hF
      replace hdo := Lib.hid hdo
      replace l0 := Lib.hid l0
      replace m0 := Lib.hid m0
      replace o0 := Lib.hid o0
      clear r0 s0
      go_enter Tryd.func7, Tryd.ntmps7
      obtain ⟨⟨u0, u1, u2⟩, -, -, -⟩ := E.getBox 0 rfl
      go_wp2_with fail
      refine (hrel.out _ (E.getRow 1 rfl) (E.getRow 2 rfl)).mono ?_
      rintro e v17 ⟨rfl, hb⟩
      replace E := E.step hb
      clear hb
      clear u0 u1 u2
      have hc0 := E.getRow 1 rfl 0 (by simp)
      obtain ⟨_, _, ee, hc0⟩ := hc0
      cases ee
      simp only [List.getD_cons_zero, Nat.add_zero] at hc0
      have SS : (v17.drew.cell? ⟨w.heap.size, 0, none⟩ = some (.bool false) ∧ v17.drew.cell? ⟨w.heap.size, 1, none⟩ = some (.slice (some ⟨bs, os, none⟩) 2 c0) ∧ v17.drew.cell? ⟨w.heap.size, 2, none⟩ = some (.slice q0 y0.length d0)) ∧ v17.drew.cell? ⟨bs, os, none⟩ = some (.int .i64 (n : Int)) := ⟨(E.getBox 0 rfl).1, hc0⟩
      have rD : Row v17.drew q0 y0 := (E.getRow 2 rfl)
      clear hc0
      go_upto_region 4 with fail
      go_region_held3 (fun w' => (w'.cell? ⟨w.heap.size, 0, none⟩ = some (.bool false) ∧ w'.cell? ⟨w.heap.size, 1, none⟩ = some (.slice (some ⟨bs, os, none⟩) 2 c0) ∧ w'.cell? ⟨w.heap.size, 2, none⟩ = some (.slice q0 y0.length d0)) ∧ w'.cell? ⟨bs, os, none⟩ = some (.int .i64 (n : Int)))
        (first | assumption | (exact held4 hb8 (by assumption)) | go_keep)
        (first
          | (go_at_call 35; refine (hdo.out _ rD).mono ?_; intro e v8 hp; obtain ⟨rfl, hb8⟩ := hp))
      replace E := (E.drew 1).step hb8
      clear SS rD hb8
      obtain ⟨⟨u0, u1, u2⟩, -, -, -⟩ := E.getBox 0 rfl
      go_wp2_with fail
      refine (hord.out _ (E.getRow 1 rfl) (E.getRow 2 rfl)).mono ?_
      intro e v18 hp
      obtain rfl := hp.1 _ hr.out
      replace E := E.step hp.2.2
      clear hp
      rw [← errV_ne (show (9 : Int) ≠ 0 by decide)]
      clear u0 u1 u2
      go_wp2_with fail
      refine (intsL_any none none [] [] 0 0 0 0 9 9 _ (E.laid 3 rfl) (Row.nil _ none) (Row.nil _ none) (by simp [maxLen]) (by simp [maxLen]) rfl rfl ⟨beq_self_eq_true _, decide_eq_true rfl⟩).mono ?_
      rintro e v19 ⟨rfl, hb⟩
      replace E := E.step hb
      clear hb
      go_wp2
      go_ret
      exact ⟨rfl, E.bel⟩
end Go.Proofs.YtiebknfmmanbiaaDoor
