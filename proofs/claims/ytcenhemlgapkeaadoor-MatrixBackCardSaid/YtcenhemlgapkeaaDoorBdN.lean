/- Texts that lie in one file: what is plain, rows, boxes, squares, and what is known of a world. No condition. -/
import Derived.Test.YtcenhemlgapkeaaDoorWkChar
import Derived.Test.YtcenhemlgapkeaaDoorBdT
import Derived.Test.YtcenhemlgapkeaaDoorSqRead
import Derived.Test.YtcenhemlgapkeaaDoorBdW
/- The call square.det: the determinant. Condition: at most six rows. -/
namespace Go.Proofs.YtcenhemlgapkeaaDoor
open Go.RowKit

theorem sg_odd {n : Nat} (h : n % 2 = 1) (d : Int) : -(Mx.sg (R := Int) n * d) = d := by
  unfold Mx.sg; rw [if_neg (by omega)]; omega
theorem sg_even' {n : Nat} (h : n % 2 = 0) (d : Int) : Mx.sg (R := Int) n * d = d := by
  unfold Mx.sg; rw [if_pos h]; omega

set_option maxRecDepth 20000 in
set_option maxHeartbeats 4000000 in
theorem detM_any (n : Nat) (A : Nat → Nat → Int) (w : World) (hn : n ≤ 6) :
    Calls Tryd.prog 53 #[.agg (sqCells n A)] w fun e w' => e = .returned (.int .i64 (wrap64 (Mx.det n A))) ∧ Below w.heap.size w w' := by
  have Q0 := heap_alloc_new w (.cells (sqCells n A) 73)
  go_enter Tryd.func53, Tryd.ntmps53
  go_wp2_with (refine wpList_load_row rfl 73 _ rfl w.heap.size rfl _ _ _ _ Q0 Tryd.underlying73 rfl (infoSq' _ _) ?_)
  refine (char_any n A _ hn).mono ?_
  rintro e w1 ⟨g, rfl, hg, hr, hb⟩
  have Q1 := (hb.block w.heap.size (by simp)).trans Q0
  have c0 := sq_cell0 Q1
  have c1 := row_cell hr (Nat.lt_succ_self n)
  rw [Mx.chi_top] at c1
  have hbel := push (start w) (.cells (sqCells n A) 73)
  have hb2 := below_trans hbel hb
  clear Q0 hbel hb
  replace Q1 := Lib.hid Q1
  replace hr := Lib.hid hr
  have n6 : (n : Int) ≤ 6 := by omega
  rcases Nat.mod_two_eq_zero_or_one n with h | h
  · rw [sg_even' h] at c1
    have e1 : ((n : Int) % 2 == 1) = false := by rw [beq_eq_false_iff_ne]; omega
    have e2 : ((n : Int).tmod 2 == 1) = false := by rw [beq_eq_false_iff_ne, Int.tmod_eq_emod_of_nonneg (by omega)]; omega
    replace h := Lib.hid h
    go_wp2
    go_ret
    exact ⟨rfl, hb2⟩
  · have hx := wrap_neg (Mx.sg n * Mx.det n A)
    rw [sg_odd h] at hx
    have e1 : ((n : Int) % 2 == 1) = true := by rw [beq_iff_eq]; omega
    have e2 : ((n : Int).tmod 2 == 1) = true := by rw [beq_iff_eq, Int.tmod_eq_emod_of_nonneg (by omega)]; omega
    generalize wrap64 (Mx.sg n * Mx.det n A) = x1 at *
    replace h := Lib.hid h
    replace hx := Lib.hid hx
    go_wp2
    go_ret
    exact ⟨by rw [← hx.out]; rfl, hb2⟩

end Go.Proofs.YtcenhemlgapkeaaDoor

/- The call matrix.Det. Condition: rows that lie as lists of ints of 64 bits. -/
namespace Go.Proofs.YtcenhemlgapkeaaDoor
open Go.RowKit

namespace M
def mdet (x : Arr) : Except Int Int := if sqFault x 6 = 0 then .ok (wrap64 (Mx.det (sqN x) (sqA (sqN x) x.d))) else .error (sqFault x 6)
end M

set_option maxRecDepth 20000 in
set_option maxHeartbeats 4000000 in
theorem mdet_any (ch : Bool) (a b : Option Addr) (s d : List Int) (m c n z : Nat) (w : World) (hs : Row w a s) (hd : Row w b d) (ls : s.length ≤ maxLen) (ld : d.length ≤ maxLen) (hd64 : All64 d) (em : m = s.length) (en : n = d.length) :
    Calls Tryd.prog 26 #[arrV ch a m c b n z] w fun e w' => e = .returned (resI (M.mdet ⟨ch, s, d⟩)) ∧ Below w.heap.size w w' := by
  subst em
  subst en
  have hread := fun w h1 h2 => sqRead_any ch a b s d _ c _ z w h1 h2 ls ld hd64 rfl rfl
  have E := (((Env.start w).addRow hd).addRow hs).box ch a s.length c b d.length z
  replace hread := Lib.hid hread
  by_cases hf : M.sqFault ⟨ch, s, d⟩ 6 = 0
  · have hr := Lib.hid (show M.mdet ⟨ch, s, d⟩ = .ok (wrap64 (Mx.det (M.sqN ⟨ch, s, d⟩) (M.sqA (M.sqN ⟨ch, s, d⟩) d))) from if_pos hf)
    replace hf := Lib.hid hf
    go_enter Tryd.func26, Tryd.ntmps26
    go_wp2_with fail
    refine (hread.out _ (E.getRow 1 rfl) (E.getRow 2 rfl)).mono ?_
    intro e w1 hp
    obtain ⟨rfl, hn⟩ := hp.1 hf.out
    have hb := hp.2.2
    clear hp
    replace E := E.step hb
    clear hb
    dsimp only at hn ⊢
    generalize M.sqN ⟨ch, s, d⟩ = k at *
    generalize M.sqA k d = A at *
    have X := heap_alloc_new w1 (.cells (sqCells 0 zeroM) 73)
    have Y := setRow_heap _ _ _ (sqCells k A) _ _ X
    have hb2 := below_setRow (E.bel.alloc E.bel.size (.cells (sqCells 0 zeroM) 73)) w1.heap.size (sqCells k A) E.bel.size
    go_wp2_with (first
      | (refine wpList_allocBy rfl 73 rfl (some 4) rfl w1.heap.size rfl (sqCells 0 zeroM) Tryd.zeroSq ?_)
      | (refine wpList_store_row rfl 73 _ _ rfl w1.heap.size _ rfl rfl _ _ X (infoSq' _ _) (sizeSq _ _ _ _) (sq_one _ _) ?_)
      | (refine wpList_load_row rfl 73 _ rfl w1.heap.size rfl _ _ _ _ Y Tryd.underlying73 rfl (infoSq' _ _) ?_))
    refine (detM_any k A _ hn).mono ?_
    rintro e w2 ⟨rfl, hb⟩
    go_wp2
    go_ret2
    exact ⟨by rw [hr.out]; rfl, below_trans hb2 hb⟩
  · have hr := Lib.hid (show M.mdet ⟨ch, s, d⟩ = .error (M.sqFault ⟨ch, s, d⟩ 6) from if_neg hf)
    replace hf := Lib.hid hf
    go_enter Tryd.func26, Tryd.ntmps26
    go_wp2_with fail
    refine (hread.out _ (E.getRow 1 rfl) (E.getRow 2 rfl)).mono ?_
    intro e w1 hp
    obtain rfl := hp.2.1 hf.out
    have hb := hp.2.2
    clear hp
    replace E := E.step hb
    clear hb
    generalize M.sqFault ⟨ch, s, d⟩ 6 = k at *
    have X := heap_alloc_new w1 (.cells (sqCells 0 zeroM) 73)
    have hb2 := below_setRow (E.bel.alloc E.bel.size (.cells (sqCells 0 zeroM) 73)) w1.heap.size (sqCells 0 zeroM) E.bel.size
    go_wp2_with (first
      | (refine wpList_allocBy rfl 73 rfl (some 4) rfl w1.heap.size rfl (sqCells 0 zeroM) Tryd.zeroSq ?_)
      | (refine wpList_store_row rfl 73 _ _ rfl w1.heap.size _ rfl rfl _ _ X (infoSq' _ _) (sizeSq _ _ _ _) (sq_one _ _) ?_))
    go_ret2
    exact ⟨by rw [hr.out]; rfl, hb2⟩
end Go.Proofs.YtcenhemlgapkeaaDoor
