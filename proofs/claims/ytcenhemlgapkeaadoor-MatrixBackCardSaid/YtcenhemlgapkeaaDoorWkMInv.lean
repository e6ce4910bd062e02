/- The call matrix.Inverse. Condition: rows that lie as lists of ints of 64 bits. -/
import Derived.Test.YtcenhemlgapkeaaDoorWkAdj
import Derived.Test.YtcenhemlgapkeaaDoorBdN
import Derived.Test.YtcenhemlgapkeaaDoorBdV
import Derived.Test.YtcenhemlgapkeaaDoorBdT
import Derived.Test.YtcenhemlgapkeaaDoorSqRead
import Derived.Test.YtcenhemlgapkeaaDoorWkPower
namespace Go.Proofs.YtcenhemlgapkeaaDoor
open Go.RowKit

namespace M
def minv (x : Arr) : Except Int Arr :=
  if sqFault x 6 ≠ 0 then .error (sqFault x 6)
  else if (wrap64 (Mx.det (sqN x) (sqA (sqN x) x.d))).tmod 2 = 0 then .error 6
  else .ok ⟨false, [(sqN x : Int), (sqN x : Int)], sqList (sqN x) (invM (sqN x) (sqA (sqN x) x.d))⟩
end M

theorem set3_block {w : World} {g T : Nat} {o : Obj} {x y z : Value} (hne : g ≠ T) (h : w.heap[g]? = some o) : (((w.setCell ⟨T, 0, none⟩ x).setCell ⟨T, 1, none⟩ y).setCell ⟨T, 2, none⟩ z).heap[g]? = some o := by
  rw [Below.heap_setCell _ _ _ _ hne, Below.heap_setCell _ _ _ _ hne, Below.heap_setCell _ _ _ _ hne]; exact h
theorem set3_cell {w : World} {g k T : Nat} {v x y z : Value} (hne : g ≠ T) (h : w.cell? ⟨g, k, none⟩ = some v) : (((w.setCell ⟨T, 0, none⟩ x).setCell ⟨T, 1, none⟩ y).setCell ⟨T, 2, none⟩ z).cell? ⟨g, k, none⟩ = some v := by
  have e : ∀ j, (⟨T, j, none⟩ : Addr) ≠ ⟨g, k, none⟩ := fun j h => by have := congrArg Addr.block h; exact hne this.symm
  rw [World.cell?_setCell_other _ _ _ _ (e 2), World.cell?_setCell_other _ _ _ _ (e 1), World.cell?_setCell_other _ _ _ _ (e 0)]; exact h

set_option maxRecDepth 20000 in
set_option maxHeartbeats 16000000 in
theorem minv_any (ch : Bool) (a b : Option Addr) (s d : List Int) (m c n z : Nat) (w : World) (hs : Row w a s) (hd : Row w b d) (ls : s.length ≤ maxLen) (ld : d.length ≤ maxLen) (hd64 : All64 d) (em : m = s.length) (en : n = d.length) :
    Calls Tryd.prog 32 #[arrV ch a m c b n z] w fun e w' => ArrPostF (M.minv ⟨ch, s, d⟩) w e w' := by
  subst em
  subst en
  have hread := fun w h1 h2 => sqRead_any ch a b s d _ c _ z w h1 h2 ls ld hd64 rfl rfl
  have E := ((((Env.start w).addRow hd).addRow hs).box ch a s.length c b d.length z).box false none 0 0 none 0 0
  rw [World.size_alloc] at E
  replace hread := Lib.hid hread
  by_cases hf : M.sqFault ⟨ch, s, d⟩ 6 = 0
  case neg =>
    have hr := Lib.hid (show M.minv ⟨ch, s, d⟩ = .error (M.sqFault ⟨ch, s, d⟩ 6) from if_pos hf)
    replace hf := Lib.hid hf
    go_enter Tryd.func32, Tryd.ntmps32
    go_wp2_with fail
    refine (hread.out _ (E.getRow 2 rfl) (E.getRow 3 rfl)).mono ?_
    intro e w1 hp
    obtain rfl := hp.2.1 hf.out
    have hb := hp.2.2
    clear hp
    replace E := E.step hb
    have n1 : w.heap.size + 1 < w1.heap.size := (E.getBox 0 rfl).lt
    clear hb
    generalize M.sqFault ⟨ch, s, d⟩ 6 = k at *
    have X := heap_alloc_new w1 (.cells (sqCells 0 zeroM) 73)
    have E2 := E.step (below_setRow (push (start w1) (.cells (sqCells 0 zeroM) 73)) w1.heap.size (sqCells 0 zeroM) (Nat.le_refl _))
    obtain ⟨⟨u0, u1, u2⟩, g0, g1, g2⟩ := E2.getBox 0 rfl
    go_wp2_with (first
      | (refine wpList_allocBy rfl 73 rfl (some 4) rfl w1.heap.size rfl (sqCells 0 zeroM) Tryd.zeroSq ?_)
      | (refine wpList_store_row rfl 73 _ _ rfl w1.heap.size _ rfl rfl _ _ X (infoSq' _ _) (sizeSq _ _ _ _) (sq_one _ _) ?_))
    refine bodyPost_ret (v := .tuple #[arrV false none 0 0 none 0 0, .iface 34 (.int .i64 k)]) (by simp [results, Tryd.results32, go_sem, cell?_set_same, u0, u1, u2]) rfl ?_
    exact .error hr.out rfl (set3 E2.bel (by omega) _ _ _)
  have hm : M.minv ⟨ch, s, d⟩ = if (wrap64 (Mx.det (M.sqN ⟨ch, s, d⟩) (M.sqA (M.sqN ⟨ch, s, d⟩) d))).tmod 2 = 0 then .error 6 else .ok ⟨false, [(M.sqN ⟨ch, s, d⟩ : Int), (M.sqN ⟨ch, s, d⟩ : Int)], sqList (M.sqN ⟨ch, s, d⟩) (invM (M.sqN ⟨ch, s, d⟩) (M.sqA (M.sqN ⟨ch, s, d⟩) d))⟩ := if_neg (fun h => h hf)
  by_cases ho : (wrap64 (Mx.det (M.sqN ⟨ch, s, d⟩) (M.sqA (M.sqN ⟨ch, s, d⟩) d))).tmod 2 = 0
  case pos =>
    have hr := Lib.hid (hm.trans (if_pos ho))
    clear hm
    have t0 : ((wrap64 (Mx.det (M.sqN ⟨ch, s, d⟩) (M.sqA (M.sqN ⟨ch, s, d⟩) d))).tmod 2 == 0) = true := by rw [beq_iff_eq]; exact ho
    replace hf := Lib.hid hf
    go_enter Tryd.func32, Tryd.ntmps32
    go_wp2_with fail
    refine (hread.out _ (E.getRow 2 rfl) (E.getRow 3 rfl)).mono ?_
    intro e w1 hp
    obtain ⟨rfl, hn⟩ := hp.1 hf.out
    have hb := hp.2.2
    clear hp
    replace E := E.step hb
    have n1 : w.heap.size + 1 < w1.heap.size := (E.getBox 0 rfl).lt
    clear hb
    dsimp only at hn ⊢
    generalize M.sqN ⟨ch, s, d⟩ = k at *
    generalize M.sqA k d = A at *
    have X := heap_alloc_new w1 (.cells (sqCells 0 zeroM) 73)
    have Y := setRow_heap _ _ _ (sqCells k A) _ _ X
    have E2 := E.step (below_setRow (push (start w1) (.cells (sqCells 0 zeroM) 73)) w1.heap.size (sqCells k A) (Nat.le_refl _))
    have B2 := E2.getBox 0 rfl
    have hb2 := E2.bel
    clear E E2
    replace B2 := Lib.hid B2
    replace ho := Lib.hid ho
    go_wp2_with (first
      | (refine wpList_allocBy rfl 73 rfl (some 4) rfl w1.heap.size rfl (sqCells 0 zeroM) Tryd.zeroSq ?_)
      | (refine wpList_store_row rfl 73 _ _ rfl w1.heap.size _ rfl rfl _ _ X (infoSq' _ _) (sizeSq _ _ _ _) (sq_one _ _) ?_)
      | (refine wpList_load_row rfl 73 _ rfl w1.heap.size rfl _ _ _ _ Y Tryd.underlying73 rfl (infoSq' _ _) ?_))
    refine (detM_any k A _ hn).mono ?_
    rintro e w2 ⟨rfl, hb⟩
    have Y2 := (hb.block w1.heap.size (by simp)).trans Y
    have B3 := B2.out.below hb
    have hb3 := below_trans hb2 hb
    have c2 := sq_cell0 Y2
    clear hb hb2 B2 X Y
    obtain ⟨⟨u0, u1, u2⟩, g0, g1, g2⟩ := B3
    clear Y2 c2
    go_wp2
    refine bodyPost_ret (v := .tuple #[arrV false none 0 0 none 0 0, .iface 34 (.int .i64 6)]) (by simp [results, Tryd.results32, go_sem, cell?_set_same, u0, u1, u2]) rfl ?_
    exact .error hr.out rfl (set3 hb3 (by omega) _ _ _)
  case neg =>
    have hr := Lib.hid (hm.trans (if_neg ho))
    clear hm
    have t0 : ((wrap64 (Mx.det (M.sqN ⟨ch, s, d⟩) (M.sqA (M.sqN ⟨ch, s, d⟩) d))).tmod 2 == 0) = false := by rw [beq_eq_false_iff_ne]; exact ho
    replace hf := Lib.hid hf
    go_enter Tryd.func32, Tryd.ntmps32
    go_wp2_with fail
    refine (hread.out _ (E.getRow 2 rfl) (E.getRow 3 rfl)).mono ?_
    intro e w1 hp
    obtain ⟨rfl, hn⟩ := hp.1 hf.out
    have hb := hp.2.2
    clear hp
    replace E := E.step hb
    have n1 : w.heap.size + 1 < w1.heap.size := (E.getBox 0 rfl).lt
    clear hb
    dsimp only at hn ⊢
    generalize M.sqN ⟨ch, s, d⟩ = k at *
    generalize M.sqA k d = A at *
    have X := heap_alloc_new w1 (.cells (sqCells 0 zeroM) 73)
    have Y := setRow_heap _ _ _ (sqCells k A) _ _ X
    have E2 := E.step (below_setRow (push (start w1) (.cells (sqCells 0 zeroM) 73)) w1.heap.size (sqCells k A) (Nat.le_refl _))
    have B2 := E2.getBox 0 rfl
    have hb2 := E2.bel
    clear E E2
    replace B2 := Lib.hid B2
    replace ho := Lib.hid ho
    go_wp2_with (first
      | (refine wpList_allocBy rfl 73 rfl (some 4) rfl w1.heap.size rfl (sqCells 0 zeroM) Tryd.zeroSq ?_)
      | (refine wpList_store_row rfl 73 _ _ rfl w1.heap.size _ rfl rfl _ _ X (infoSq' _ _) (sizeSq _ _ _ _) (sq_one _ _) ?_)
      | (refine wpList_load_row rfl 73 _ rfl w1.heap.size rfl _ _ _ _ Y Tryd.underlying73 rfl (infoSq' _ _) ?_))
    refine (detM_any k A _ hn).mono ?_
    rintro e w2 ⟨rfl, hb⟩
    have Y2 := (hb.block w1.heap.size (by simp)).trans Y
    have B3 := B2.out.below hb
    have hb3 := below_trans hb2 hb
    have c2 := sq_cell0 Y2
    clear hb hb2 B2 X Y
    obtain ⟨dd, hdd⟩ : ∃ dd, dd = wrap64 (Mx.det k A) := ⟨_, rfl⟩
    have hdi : I64 dd := by rw [hdd]; exact I64_wrap _
    rw [← hdd] at t0 ⊢
    have hodd := fun w => odd_any dd w hdi
    have hcw := wrap_id (newts_i64 hdi 6)
    have hunit := fun w => unit_any k (newts dd 6) w hn
    rw [hcw] at hunit
    have hadj := fun w => adjM_any k A w hn
    have hinv : ∀ F : Nat → Nat → Int, (∀ i j, i < k → j < k → F i j = Mx.adj k A i j) → sqList k (timesM k F (unitM k (newts dd 6))) = sqList k (invM k A) := fun F hF => by rw [hdd]; exact inv_list hF
    have hSd : w2.drew.heap[w1.heap.size]? = some (.cells (sqCells k A) 73 (0, 0)) ∧ w2.drew.cell? ⟨w1.heap.size, 0, none⟩ = some (.int .i64 (k : Int)) := ⟨Y2, c2⟩
    have B3d : BoxF w2.drew (w.heap.size + 1) false none 0 0 none 0 0 := B3
    have hb3d : Below w.heap.size w w2.drew := hb3.drew
    generalize newts dd 6 = cc at *
    replace hodd := Lib.hid hodd
    replace hcw := Lib.hid hcw
    replace hunit := Lib.hid hunit
    replace hadj := Lib.hid hadj
    replace hinv := Lib.hid hinv
    replace B3 := Lib.hid B3
    replace B3d := Lib.hid B3d
    replace hdd := Lib.hid hdd
    replace hdi := Lib.hid hdi
    clear Y2
    go_upto_region 7 with fail
    refine wp_region_held_drew (S := (fun w' => w'.heap[w1.heap.size]? = some (.cells (sqCells k A) 73 (0, 0)) ∧ w'.cell? ⟨w1.heap.size, 0, none⟩ = some (.int .i64 (k : Int)))) (by kernel_rfl) hSd (fun hHeld => ?_)
    refine wpAnyH_take (i := 0) rfl (by kernel_rfl) (by kernel_rfl) (by kernel_rfl) (fun _ _ _ h => h) (yieldsIf_load_row (by kernel_rfl) 73 _ rfl w1.heap.size rfl _ _ _ _ (fun w h => h.1) Tryd.underlying73 rfl (infoSq' _ _)) (by assumption) ?_
    try simp only [Act.put, List.getElem_toArray, List.getElem_cons_succ, List.getElem_cons_zero, List.setIfInBounds_toArray, List.set_cons_zero, List.set_cons_succ]
    refine wpAnyH_take (i := 2) (v := ?_) rfl (by kernel_rfl) (by kernel_rfl) (by kernel_rfl) (fun _ _ _ h => h) (Or.inl ⟨by kernel_rfl, ?_⟩) (by assumption) ?_
    rotate_left
    · (intro w hSw; (try dsimp only at hSw); go_simp); (try with_reducible rfl)
    try simp only [Act.put, List.getElem_toArray, List.getElem_cons_succ, List.getElem_cons_zero, List.setIfInBounds_toArray, List.set_cons_zero, List.set_cons_succ]
    refine wpAnyH_take (i := 3) (v := ?_) rfl (by kernel_rfl) (by kernel_rfl) (by kernel_rfl) (fun _ _ _ h => h) (Or.inl ⟨by kernel_rfl, ?_⟩) (by assumption) ?_
    rotate_left
    · (intro w hSw; (try dsimp only at hSw); go_simp); (try with_reducible rfl)
    try simp only [Act.put, List.getElem_toArray, List.getElem_cons_succ, List.getElem_cons_zero, List.setIfInBounds_toArray, List.set_cons_zero, List.set_cons_succ]
    refine wpAnyH_take (i := 4) (v := ?_) rfl (by kernel_rfl) (by kernel_rfl) (by kernel_rfl) (fun _ _ _ h => h) (Or.inl ⟨by kernel_rfl, ?_⟩) (by assumption) ?_
    rotate_left
    · (intro w hSw; (try dsimp only at hSw); go_simp); (try with_reducible rfl)
    try simp only [Act.put, List.getElem_toArray, List.getElem_cons_succ, List.getElem_cons_zero, List.setIfInBounds_toArray, List.set_cons_zero, List.set_cons_succ]
    refine wpAnyH_ready (rs := [1]) (by kernel_rfl) (by simp) ?_
    refine AllReadyH.cons rfl (fun K hK => ?_) AllReadyH.nil
    go_simp
    refine (hadj.out _).mono ?_
    rintro e w3 ⟨⟨F, rfl, hF⟩, hb3⟩
    have hFl := Lib.hid (hinv.out F hF)
    replace hF := Lib.hid hF
    have hS3 : w3.heap[w1.heap.size]? = some (.cells (sqCells k A) 73 (0, 0)) ∧ w3.cell? ⟨w1.heap.size, 0, none⟩ = some (.int .i64 (k : Int)) := ⟨(hb3.block _ (lt_of_some hSd.1)).trans hSd.1, (hb3.cell (World.block_lt_of_cell? _ _ hSd.2)).trans hSd.2⟩
    have B3 := Lib.hid (B3d.out.below hb3)
    have hbel3 := below_trans hb3d hb3
    try go_wp2_with fail
    refine hK.out _ _ (by assumption) (fun hHeld => ?_)
    clear hK K
    try simp only [Act.put, List.getElem_toArray, List.getElem_cons_succ, List.getElem_cons_zero, List.setIfInBounds_toArray, List.set_cons_zero, List.set_cons_succ]
    refine wpAnyH_ready (rs := [5]) (by kernel_rfl) (by simp) ?_
    refine AllReadyH.cons rfl (fun K hK => ?_) AllReadyH.nil
    go_simp
    refine (hodd.out _).mono ?_
    rintro e w4 ⟨rfl, rfl⟩
    try go_wp2_with fail
    refine hK.out _ _ (by assumption) (fun hHeld => ?_)
    clear hK K
    try simp only [Act.put, List.getElem_toArray, List.getElem_cons_succ, List.getElem_cons_zero, List.setIfInBounds_toArray, List.set_cons_zero, List.set_cons_succ]
    refine wpAnyH_ready (rs := [6]) (by kernel_rfl) (by simp) ?_
    refine AllReadyH.cons rfl (fun K hK => ?_) AllReadyH.nil
    go_simp
    refine (hunit.out _).mono ?_
    rintro e w5 ⟨rfl, hb5⟩
    have hS5 : w5.heap[w1.heap.size]? = some (.cells (sqCells k A) 73 (0, 0)) ∧ w5.cell? ⟨w1.heap.size, 0, none⟩ = some (.int .i64 (k : Int)) := ⟨(hb5.block _ (lt_of_some hS3.1)).trans hS3.1, (hb5.cell (World.block_lt_of_cell? _ _ hS3.2)).trans hS3.2⟩
    have B5 := Lib.hid (B3.out.below hb5)
    have hbel5 := below_trans hbel3 hb5
    try go_wp2_with fail
    refine hK.out _ _ (by assumption) (fun hHeld => ?_)
    clear hK K
    try simp only [Act.put, List.getElem_toArray, List.getElem_cons_succ, List.getElem_cons_zero, List.setIfInBounds_toArray, List.set_cons_zero, List.set_cons_succ]
    refine wpAnyH_ready (rs := [7]) (by kernel_rfl) (by simp) ?_
    refine AllReadyH.cons rfl (fun K hK => ?_) AllReadyH.nil
    go_simp
    refine (times_any k k _ _ _ hn).mono ?_
    rintro e w6 ⟨rfl, hb6⟩
    have hS6 : w6.heap[w1.heap.size]? = some (.cells (sqCells k A) 73 (0, 0)) ∧ w6.cell? ⟨w1.heap.size, 0, none⟩ = some (.int .i64 (k : Int)) := ⟨(hb6.block _ (lt_of_some hS5.1)).trans hS5.1, (hb6.cell (World.block_lt_of_cell? _ _ hS5.2)).trans hS5.2⟩
    have B6 := Lib.hid (B5.out.below hb6)
    have hbel6 := below_trans hbel5 hb6
    try go_wp2_with fail
    refine hK.out _ _ (by assumption) (fun hHeld => ?_)
    clear hK K
    try simp only [Act.put, List.getElem_toArray, List.getElem_cons_succ, List.getElem_cons_zero, List.setIfInBounds_toArray, List.set_cons_zero, List.set_cons_succ]
    refine wpAnyH_ready (rs := [8]) (by kernel_rfl) (by simp) ?_
    refine AllReadyH.cons rfl (fun K hK => ?_) AllReadyH.nil
    go_simp
    refine (sqTold_any k _ _ hn).mono ?_
    rintro e w7 ⟨aT, kT, eT, fT, rfl, ra, rb, fa, fb, hkT, hb7⟩
    have hS7 : w7.heap[w1.heap.size]? = some (.cells (sqCells k A) 73 (0, 0)) ∧ w7.cell? ⟨w1.heap.size, 0, none⟩ = some (.int .i64 (k : Int)) := ⟨(hb7.block _ (lt_of_some hS6.1)).trans hS6.1, (hb7.cell (World.block_lt_of_cell? _ _ hS6.2)).trans hS6.2⟩
    have B7 := Lib.hid (B6.out.below hb7)
    have hbel7 := below_trans hbel6 hb7
    have SZ := hbel6.size
    try go_wp2_with fail
    refine hK.out _ _ (by assumption) (fun hHeld => ?_)
    clear hK K
    try simp only [Act.put, List.getElem_toArray, List.getElem_cons_succ, List.getElem_cons_zero, List.setIfInBounds_toArray, List.set_cons_zero, List.set_cons_succ]
    refine wpAnyH_ready (rs := [9]) (by kernel_rfl) (by simp) ?_
    refine AllReadyH.cons rfl (fun K hK => ?_) AllReadyH.nil
    obtain ⟨⟨z0, z1, z2⟩, g0, g1, g2⟩ := B7.out
    dsimp only [List.length_cons, List.length_nil, Nat.reduceAdd] at ra rb ⊢
    have ra' : Row (((w7.setCell ⟨w.heap.size + 1, 0, none⟩ (.bool false)).setCell ⟨w.heap.size + 1, 1, none⟩ (.slice aT 2 kT)).setCell ⟨w.heap.size + 1, 2, none⟩ (.slice eT (sqList k (timesM k F (unitM k cc))).length fT)) aT [(k : Int), (k : Int)] := ((Row.set_ne ra z0 (by simp)).set_ne ((World.cell?_setCell_other _ _ _ _ (by simp)).trans z1) (by simp)).set_ne ((World.cell?_setCell_other _ _ _ _ (by simp)).trans ((World.cell?_setCell_other _ _ _ _ (by simp)).trans z2)) (by simp)
    have rb' : Row (((w7.setCell ⟨w.heap.size + 1, 0, none⟩ (.bool false)).setCell ⟨w.heap.size + 1, 1, none⟩ (.slice aT 2 kT)).setCell ⟨w.heap.size + 1, 2, none⟩ (.slice eT (sqList k (timesM k F (unitM k cc))).length fT)) eT (sqList k (timesM k F (unitM k cc))) := ((Row.set_ne rb z0 (by simp)).set_ne ((World.cell?_setCell_other _ _ _ _ (by simp)).trans z1) (by simp)).set_ne ((World.cell?_setCell_other _ _ _ _ (by simp)).trans ((World.cell?_setCell_other _ _ _ _ (by simp)).trans z2)) (by simp)
    have hne : w1.heap.size ≠ w.heap.size + 1 := by omega
    have hS9 : ∀ x y z, (((w7.setCell ⟨w.heap.size + 1, 0, none⟩ x).setCell ⟨w.heap.size + 1, 1, none⟩ y).setCell ⟨w.heap.size + 1, 2, none⟩ z).heap[w1.heap.size]? = some (.cells (sqCells k A) 73 (0, 0)) ∧ (((w7.setCell ⟨w.heap.size + 1, 0, none⟩ x).setCell ⟨w.heap.size + 1, 1, none⟩ y).setCell ⟨w.heap.size + 1, 2, none⟩ z).cell? ⟨w1.heap.size, 0, none⟩ = some (.int .i64 (k : Int)) := fun x y z => ⟨set3_block hne hS7.1, set3_cell hne hS7.2⟩
    go_simp
    refine hK.out _ _ (hS9 _ _ _) (fun hHeld => ?_)
    clear hK K
    try simp only [Act.put, List.getElem_toArray, List.getElem_cons_succ, List.getElem_cons_zero, List.setIfInBounds_toArray, List.set_cons_zero, List.set_cons_succ]
    refine wpAnyH_ready (rs := [10]) (by kernel_rfl) (by simp) ?_
    refine AllReadyH.cons rfl (fun K hK => ?_) AllReadyH.nil
    go_simp
    refine hK.out _ _ (hS9 _ _ _) (fun hHeld => ?_)
    clear hK K
    try simp only [Act.put, List.getElem_toArray, List.getElem_cons_succ, List.getElem_cons_zero, List.setIfInBounds_toArray, List.set_cons_zero, List.set_cons_succ]
    refine wpAnyH_done (by kernel_rfl) ?_ _
    clear hHeld hS9
    go_wp2
    refine bodyPost_ret (v := .tuple #[arrV false aT 2 kT eT (sqList k (timesM k F (unitM k cc))).length fT, .nilIface]) (by simp [results, Tryd.results32, go_sem, cell?_set_same, z0, z1, z2]) rfl ?_
    exact .ok (x := ⟨false, [(k : Int), (k : Int)], sqList k (timesM k F (unitM k cc))⟩) (by rw [hr.out, hFl.out]) rfl ra' rb' (fa.mono SZ) (fb.mono SZ) hkT (set3 hbel7 (by omega) _ _ _)

end Go.Proofs.YtcenhemlgapkeaaDoor
