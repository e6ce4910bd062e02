/- The call square.adjugate: the adjugate by the characteristic. Condition: at most six rows. -/
import Derived.Test.YtcenhemlgapkeaaDoorWkChar
import Derived.Test.YtcenhemlgapkeaaDoorBdT
import Derived.Test.YtcenhemlgapkeaaDoorBdM
import Derived.Test.YtcenhemlgapkeaaDoorBdA
import Derived.Test.YtcenhemlgapkeaaDoorBdQ
import Derived.Deep.RegionHeld3
import Derived.BigRegion
import Derived.Deep.Cut
namespace Go.Proofs.YtcenhemlgapkeaaDoor
open Go.RowKit

/-- What the loop has made after k rounds. -/
def adF (n : Nat) (A : Nat → Nat → Int) : Nat → Nat → Nat → Int
  | 0 => unitM n 0
  | k + 1 => plusM (timesM n (adF n A k) A) n ((Mx.chi n A).co k)
theorem adF_eq (n : Nat) (A : Nat → Nat → Int) (k : Nat) : ∀ i j, i < n → j < n → adF n A k i j = Mx.S k fun t => (Mx.chi n A).co t * Mx.pw n A (k - 1 - t) i j := by
  induction k with
  | zero => intro i j hi hj; show unitM n 0 i j = 0; unfold unitM; split <;> rfl
  | succ k ih =>
    intro i j hi hj
    have h1 : timesM n (adF n A k) A i j = Mx.S k fun t => (Mx.chi n A).co t * Mx.pw n A (k - t) i j := by
      show (if i < n ∧ j < n then Mx.mul n (adF n A k) A i j else 0) = _
      rw [if_pos ⟨hi, hj⟩]
      have h2 : Mx.mul n (adF n A k) A i j = Mx.mul n (fun i j => Mx.S k fun t => (Mx.chi n A).co t * Mx.pw n A (k - 1 - t) i j) A i j := Mx.mul_congr (fun l hl => ih i l hi hl) (fun _ _ => rfl)
      rw [h2]
      show Mx.S n (fun l => (Mx.S k fun t => (Mx.chi n A).co t * Mx.pw n A (k - 1 - t) i l) * A l j) = _
      have h3 : ∀ l, l < n → (Mx.S k fun t => (Mx.chi n A).co t * Mx.pw n A (k - 1 - t) i l) * A l j = Mx.S k fun t => (Mx.chi n A).co t * Mx.pw n A (k - 1 - t) i l * A l j := fun l _ => (Mx.S_mulr k (A l j) _).symm
      rw [Mx.S_congr h3, Mx.S_comm]
      refine Mx.S_congr fun t ht => ?_
      have h4 : ∀ l, l < n → (Mx.chi n A).co t * Mx.pw n A (k - 1 - t) i l * A l j = (Mx.chi n A).co t * (Mx.pw n A (k - 1 - t) i l * A l j) := fun l _ => Int.mul_assoc _ _ _
      rw [Mx.S_congr h4, Mx.S_mul]
      congr 1
      have h5 := Mx.mul_pw n A (k - 1 - t) 1 i j hi
      rw [show k - 1 - t + 1 = k - t by omega] at h5
      rw [← h5]
      exact Mx.mul_congr (fun _ _ => rfl) (fun l hl => (Mx.pw_one hj A).symm)
    show plusM (timesM n (adF n A k) A) n ((Mx.chi n A).co k) i j = _
    have h6 : Mx.pw n A 0 i j = Mx.one i j := rfl
    show _ = Mx.S k (fun t => (Mx.chi n A).co t * Mx.pw n A (k + 1 - 1 - t) i j) + (Mx.chi n A).co k * Mx.pw n A (k + 1 - 1 - k) i j
    rw [Nat.add_sub_cancel, Nat.sub_self, h6, ← h1]
    unfold plusM Mx.one
    by_cases h : i = j
    · rw [if_pos ⟨h, hi⟩, if_pos h, Int.mul_one]
    · rw [if_neg (fun k => h k.1), if_neg h, Int.mul_zero, Int.add_zero]
theorem adF_end {n : Nat} (A : Nat → Nat → Int) {i j : Nat} (hi : i < n) (hj : j < n) : adF n A n i j = Mx.sg (n - 1) * Mx.adj n A i j := by
  rw [adF_eq n A n i j hi hj, Mx.adj_chi A i j hi hj]
/-- .. and with the sign turned, the first p rows and then q numbers. -/
def ngF (n : Nat) (F : Nat → Nat → Int) (p q : Nat) (i j : Nat) : Int := if i < p ∧ j < n ∨ i = p ∧ j < q then -F i j else F i j
theorem ngF_zero (n : Nat) (F : Nat → Nat → Int) : ngF n F 0 0 = F := by funext i j; unfold ngF; rw [if_neg (by omega)]
theorem ngF_step (n : Nat) (F : Nat → Nat → Int) (p q : Nat) (hq : q < n) : put (ngF n F p q) p q (-(ngF n F p q p q)) = ngF n F p (q + 1) := by
  funext i j
  unfold put ngF
  by_cases h : i = p ∧ j = q
  · obtain ⟨rfl, rfl⟩ := h
    rw [if_pos ⟨rfl, rfl⟩, if_neg (by omega), if_pos (by omega)]
  · rw [if_neg h]
    by_cases h2 : i < p ∧ j < n ∨ i = p ∧ j < q
    · rw [if_pos h2, if_pos (by omega)]
    · rw [if_neg h2, if_neg (by omega)]
theorem ngF_next (n : Nat) (F : Nat → Nat → Int) (p : Nat) : ngF n F p n = ngF n F (p + 1) 0 := by
  funext i j
  unfold ngF
  by_cases h2 : i < p ∧ j < n ∨ i = p ∧ j < n
  · rw [if_pos h2, if_pos (by omega)]
  · rw [if_neg h2, if_neg (by omega)]
theorem ngF_end {n : Nat} (F : Nat → Nat → Int) {i j : Nat} (hi : i < n) (hj : j < n) : ngF n F n 0 i j = -F i j := by
  unfold ngF; rw [if_pos (by omega)]

theorem yieldsIf_load_row {P : Program} {ops : Array Oper} {S : World → Prop} {op : Oper} {a : Act} (hw : Region.wanted op (yielded ops a.tmps) = true) (ty : TypeId) (x : Operand) (ho : op.op = .load ty x)
    (g : Nat) (hx : a.eval x = .pointer (some ⟨g, 0, none⟩)) (t : TypeId) (cs : Array Value) (fr : Nat × Nat) (d : TypeDesc) (hS : ∀ w, S w → w.heap[g]? = some (.cells cs t fr))
    (hu : P.underlying ty = some d) (hd : (match d with | .struct _ | .array _ _ => true | _ => false) = true) (hi : (P.info? ty).map (·.size) = some cs.size) : YieldsIf P ops S op (.agg cs) a :=
  .inl ⟨hw, fun w hw' => by
    unfold execOp
    simp only [ho, hx, Instr.loadAt, Instr.sureAddr, Sem.run_bind, Sem.run_pure, Result.andThen_ok, run_loadVar_row w g t ty cs fr d (hS w hw') hu hd hi]⟩

set_option maxRecDepth 20000 in
set_option maxHeartbeats 8000000 in
theorem adjM_any (n : Nat) (A : Nat → Nat → Int) (w : World) (hn : n ≤ 6) :
    Calls Tryd.prog 55 #[.agg (sqCells n A)] w fun e w' => (∃ F, e = .returned (.agg (sqCells n F)) ∧ ∀ i j, i < n → j < n → F i j = Mx.adj n A i j) ∧ Below w.heap.size w w' := by
  have Q0 := heap_alloc2_old w (.cells (sqCells n A) 73) (.cells (sqCells 0 zeroM) 73)
  have R0 := heap_alloc2_new w (.cells (sqCells n A) 73) (.cells (sqCells 0 zeroM) 73)
  have hb0 : Below w.heap.size w ((w.alloc (.cells (sqCells n A) 73)).alloc (.cells (sqCells 0 zeroM) 73)) := ((Below.refl _ w).alloc (Nat.le_refl _) _).alloc (by simp) _
  have hchar := fun w => char_any n A w hn
  have wz : wrap64 0 = 0 := wrap_id (by unfold I64; omega)
  have hunit := fun w => unit_any n 0 w hn
  rw [wz] at hunit
  replace hchar := Lib.hid hchar
  replace hunit := Lib.hid hunit
  clear wz
  go_enter Tryd.func55, Tryd.ntmps55
  go_wp2_with (first
    | (refine wpList_allocBy rfl 73 rfl (some 2) rfl (w.heap.size + 1) (by simp) (sqCells 0 zeroM) Tryd.zeroSq ?_)
    | (refine wpList_load_row rfl 73 _ rfl w.heap.size rfl _ _ _ _ Q0 Tryd.underlying73 rfl (infoSq' _ _) ?_))
  refine (hchar.out _).mono ?_
  rintro e w1 ⟨g, rfl, hg, hr, hb⟩
  have Q1 := (hb.block w.heap.size (by simp; omega)).trans Q0
  have R1 := (hb.block (w.heap.size + 1) (by simp)).trans R0
  have hb1 := below_trans hb0 hb
  have s1 := hb.size
  simp only [World.size_alloc] at hg s1
  have lg := (Array.getElem?_eq_some_iff.1 hr).1
  have c0 := sq_cell0 Q1
  clear Q0 R0 hb0 hb
  go_wp2_with fail
  refine (hunit.out _).mono ?_
  rintro e w2 ⟨rfl, hb⟩
  have Q2 := (hb.block w.heap.size (by omega)).trans Q1
  have R2 := (hb.block (w.heap.size + 1) (by omega)).trans R1
  have hr2 := (hb.block g lg).trans hr
  have hb2 := below_trans hb1 hb
  have s2 := hb.size
  clear Q1 R1 c0 hr hb1 hb
  have X := heap_alloc_new w2 (.cells (sqCells 0 zeroM) 73)
  obtain ⟨W3, hW3⟩ : ∃ W3, W3 = (w2.alloc (.cells (sqCells 0 zeroM) 73)).setRow w2.heap.size (sqCells n (unitM n 0)) := ⟨_, rfl⟩
  have B3 := setRow_heap _ _ _ (sqCells n (unitM n 0)) _ _ X
  have old3 : ∀ (b : Nat) (C : Array Value) (e : TypeId), b < w2.heap.size → w2.heap[b]? = some (.cells C e (0, 0)) → W3.heap[b]? = some (.cells C e (0, 0)) := fun b C e hl h => by
    rw [hW3, setRow_other _ _ _ _ (by omega), heap_alloc_old _ _ hl]; exact h
  have Q3 := old3 _ _ _ (by omega) Q2
  have R3 := old3 _ _ _ (by omega) R2
  have hr3 := old3 _ _ _ (by omega) hr2
  have hb3 : Below w.heap.size w W3 := by rw [hW3]; exact below_setRow (hb2.alloc hb2.size (.cells (sqCells 0 zeroM) 73)) w2.heap.size (sqCells n (unitM n 0)) hb2.size
  rw [← hW3] at B3
  have c3 := sq_cell0 Q3
  have gG : g < w2.heap.size := by omega
  have wG : w.heap.size + 1 < w2.heap.size := by omega
  clear Q2 R2 hr2 hb2 old3
  replace Q3 := Lib.hid Q3
  replace R3 := Lib.hid R3
  replace hr3 := Lib.hid hr3
  replace B3 := Lib.hid B3
  replace hW3 := Lib.hid hW3
  go_wp2_with (first
    | (refine wpList_allocBy rfl 73 rfl (some 4) rfl w2.heap.size rfl (sqCells 0 zeroM) Tryd.zeroSq ?_)
    | (refine wpList_store_row rfl 73 _ _ rfl w2.heap.size _ rfl rfl _ _ X (infoSq' _ _) (sizeSq _ _ _ _) (sq_one _ _) ?_; rw [← hW3.out]))
  go_loopw [15] (fun v wr => ∃ k : Nat, k ≤ n ∧ v = .int .i64 k ∧ wr.heap[w2.heap.size]? = some (.cells (sqCells n (adF n A k)) 73 (0, 0)) ∧ But w2.heap.size W3 wr ∧ Below w.heap.size w wr ∧ W3.heap.size ≤ wr.heap.size) (fun v _ => n - (intOf v).toNat)
  case atStart => exact ⟨0, Nat.zero_le _, rfl, B3.out, But.refl _ _, hb3, Nat.le_refl _⟩
  case round =>
    clear c3 B3
    obtain ⟨k, hk, rfl, hB, hbut, hbel, hsz⟩ := hrel
    have Qr := hbut.get Q3.out (show w.heap.size ≠ w2.heap.size by omega)
    have hrr := hbut.get hr3.out (show g ≠ w2.heap.size by omega)
    by_cases hlt : k < n
    · have cg := row_cell hrr (show k < n + 1 by omega)
      have il : (k : Int) < (n : Int) + 1 := by omega
      have il0 : (0 : Int) ≤ (k : Int) := by omega
      have lG := lt_of_some hB
      obtain ⟨ck, hck⟩ : ∃ ck, ck = (Mx.chi n A).co k := ⟨_, rfl⟩
      rw [← hck] at cg
      have hstep : adF n A (k + 1) = plusM (timesM n (adF n A k) A) n ck := by rw [hck]; rfl
      replace hck := Lib.hid hck
      replace hstep := Lib.hid hstep
      have hBd : wr.drew.heap[w2.heap.size]? = some (.cells (sqCells n (adF n A k)) 73 (0, 0)) := hB
      have hS : wr.drew.heap[w.heap.size]? = some (.cells (sqCells n A) 73 (0, 0)) ∧ wr.drew.cell? ⟨g, k, none⟩ = some (.int .i64 (wrap64 ck)) := ⟨Qr, cg⟩
      clear hrr cg
      replace hB := Lib.hid hB
      replace hbut := Lib.hid hbut
      replace Qr := Lib.hid Qr
      generalize adF n A k = FK at *
      go_upto_region 6 with fail
      refine wp_region_held_drew (S := (fun w' => w'.heap[w.heap.size]? = some (.cells (sqCells n A) 73 (0, 0)) ∧ w'.cell? ⟨g, k, none⟩ = some (.int .i64 (wrap64 ck)))) (by kernel_rfl) hS (fun hHeld => ?_)
      refine wpAnyH_take (i := 1) rfl (by kernel_rfl) (by kernel_rfl) (by kernel_rfl) (fun _ _ _ h => h) (yieldsIf_load_row (by rfl) 73 _ rfl w.heap.size rfl _ _ _ _ (fun w h => h.1) Tryd.underlying73 rfl (infoSq' _ _)) (by assumption) ?_
      try simp only [Act.put, List.setIfInBounds_toArray, List.set_cons_zero, List.set_cons_succ]
      refine wpAnyH_take (i := 3) (v := ?_) rfl (by kernel_rfl) (by kernel_rfl) (by kernel_rfl) (fun _ _ _ h => h) (Or.inl ⟨by rfl, ?_⟩) (by assumption) ?_
      rotate_left
      · (intro w hSw; (try dsimp only at hSw); go_simp); (try with_reducible rfl)
      try simp only [Act.put, List.setIfInBounds_toArray, List.set_cons_zero, List.set_cons_succ]
      refine wpAnyH_take (i := 4) (v := ?_) rfl (by kernel_rfl) (by kernel_rfl) (by kernel_rfl) (fun _ _ _ h => h) (Or.inl ⟨by rfl, ?_⟩) (by assumption) ?_
      rotate_left
      · (intro w hSw; (try dsimp only at hSw); go_simp); (try with_reducible rfl)
      try simp only [Act.put, List.setIfInBounds_toArray, List.set_cons_zero, List.set_cons_succ]
      refine wpAnyH_take (i := 5) (v := ?_) rfl (by kernel_rfl) (by kernel_rfl) (by kernel_rfl) (fun _ _ _ h => h) (Or.inl ⟨by rfl, ?_⟩) (by assumption) ?_
      rotate_left
      · (intro w hSw; (try dsimp only at hSw); go_simp); (try with_reducible rfl)
      try simp only [Act.put, List.setIfInBounds_toArray, List.set_cons_zero, List.set_cons_succ]
      refine wpAnyH_take (i := 6) (v := ?_) rfl (by kernel_rfl) (by kernel_rfl) (by kernel_rfl) (fun _ _ _ h => h) (Or.inl ⟨by rfl, ?_⟩) (by assumption) ?_
      rotate_left
      · (intro w hSw; (try dsimp only at hSw); go_simp); (try with_reducible rfl)
      try simp only [Act.put, List.setIfInBounds_toArray, List.set_cons_zero, List.set_cons_succ]
      refine wpAnyH_ready (rs := [0]) (by kernel_rfl) (by simp) ?_
      refine AllReadyH.cons rfl (fun K hK => ?_) AllReadyH.nil
      rw [if_pos (by rfl)]
      refine wp_load_row 73 _ rfl w2.heap.size rfl _ _ _ _ hBd Tryd.underlying73 rfl (infoSq' _ _) ?_
      refine hK.out _ _ (by assumption) (fun hHeld => ?_)
      clear hK K
      try simp only [Act.put, List.setIfInBounds_toArray, List.set_cons_zero, List.set_cons_succ]
      refine wpAnyH_ready (rs := [2]) (by kernel_rfl) (by simp) ?_
      refine AllReadyH.cons rfl (fun K hK => ?_) AllReadyH.nil
      go_simp
      refine (times_any n n _ _ _ hn).mono ?_
      rintro e w5 ⟨rfl, hb5⟩
      go_wp2_with fail
      have hS5 : w5.heap[w.heap.size]? = some (.cells (sqCells n A) 73 (0, 0)) ∧ w5.cell? ⟨g, k, none⟩ = some (.int .i64 (wrap64 ck)) := ⟨(hb5.block _ (lt_of_some hS.1)).trans hS.1, (hb5.cell (World.block_lt_of_cell? _ _ hS.2)).trans hS.2⟩
      refine hK.out _ _ (by assumption) (fun hHeld => ?_)
      clear hK K
      try simp only [Act.put, List.setIfInBounds_toArray, List.set_cons_zero, List.set_cons_succ]
      refine wpAnyH_ready (rs := [7]) (by kernel_rfl) (by simp) ?_
      refine AllReadyH.cons rfl (fun K hK => ?_) AllReadyH.nil
      go_simp
      refine (plus_any n _ ck _ hn).mono ?_
      rintro e w6 ⟨rfl, hb6⟩
      go_wp2_with fail
      have hS6 : w6.heap[w.heap.size]? = some (.cells (sqCells n A) 73 (0, 0)) ∧ w6.cell? ⟨g, k, none⟩ = some (.int .i64 (wrap64 ck)) := ⟨(hb6.block _ (lt_of_some hS5.1)).trans hS5.1, (hb6.cell (World.block_lt_of_cell? _ _ hS5.2)).trans hS5.2⟩
      refine hK.out _ _ (by assumption) (fun hHeld => ?_)
      clear hK K
      try simp only [Act.put, List.setIfInBounds_toArray, List.set_cons_zero, List.set_cons_succ]
      have hB6 := (hb6.block _ (lt_of_some ((hb5.block _ (lt_of_some hBd)).trans hBd))).trans ((hb5.block _ (lt_of_some hBd)).trans hBd)
      have bel6 := below_trans (below_trans (below_drewN hbel 1) hb5) hb6
      refine wpAnyH_ready (rs := [8]) (by kernel_rfl) (by simp) ?_
      refine AllReadyH.cons rfl (fun K hK => ?_) AllReadyH.nil
      rw [if_pos (by rfl)]
      refine wp_store_row 73 _ _ rfl w2.heap.size _ rfl rfl _ _ hB6 (infoSq' _ _) (sizeSq _ _ _ _) (sq_one _ _) ?_
      have hS7 : (w6.setRow w2.heap.size (sqCells n (plusM (timesM n FK A) n ck))).heap[w.heap.size]? = some (.cells (sqCells n A) 73 (0, 0)) ∧ (w6.setRow w2.heap.size (sqCells n (plusM (timesM n FK A) n ck))).cell? ⟨g, k, none⟩ = some (.int .i64 (wrap64 ck)) :=
        ⟨(setRow_other _ _ _ _ (by omega)).trans hS6.1, (cell_of_eq (setRow_other _ _ _ _ (by omega)) k).trans hS6.2⟩
      refine hK.out _ _ (by assumption) (fun hHeld => ?_)
      clear hK K
      try simp only [Act.put, List.setIfInBounds_toArray, List.set_cons_zero, List.set_cons_succ]
      refine wpAnyH_done (by kernel_rfl) ?_ _
      have hfin := setRow_heap _ _ _ (sqCells n (plusM (timesM n FK A) n ck)) _ _ hB6
      rw [← hstep.out] at hfin ⊢
      have hbf := below_setRow bel6 w2.heap.size (sqCells n (adF n A (k + 1))) (by omega)
      have szf : W3.heap.size ≤ (w6.setRow w2.heap.size (sqCells n (adF n A (k + 1)))).heap.size := by
        have h5 := hb5.size
        have h6 := hb6.size
        have h5' : wr.heap.size ≤ w5.heap.size := h5
        simp; omega
      have hbuf : But w2.heap.size W3 (w6.setRow w2.heap.size (sqCells n (adF n A (k + 1)))) := fun b hbl hne => by
        rw [setRow_other _ _ _ _ hne, hb6.block b (by have := hb5.size; have h5' : wr.heap.size ≤ w5.heap.size := this; omega), hb5.block b (by show b < wr.heap.size; omega)]
        exact hbut.out b hbl hne
      clear hS hS5 hS6 hS7 hB6 hBd bel6 hHeld
      replace hfin := Lib.hid hfin
      go_wp2
      go_roundw
      case rel => exact ⟨k + 1, by omega, by go_num, hfin.out, hbuf, hbf, szf⟩
      case measure => simp [intOf]; omega
    · obtain rfl : k = n := by omega
      have c0 := sq_cell0 Qr
      have Rr := Lib.hid (hbut.get R3.out (show w.heap.size + 1 ≠ w2.heap.size by omega))
      have n6 : (k : Int) ≤ 6 := by omega
      clear hrr
      rcases Nat.mod_two_eq_zero_or_one k with h | h
      · have e1 : ((k : Int) % 2 == 0) = true := by rw [beq_iff_eq]; omega
        have e2 : ((k : Int).tmod 2 == 0) = true := by rw [beq_iff_eq, Int.tmod_eq_emod_of_nonneg (by omega)]; omega
        have hz : ngF k (adF k A k) 0 0 = adF k A k := ngF_zero _ _
        rw [← hz] at hB
        replace hz := Lib.hid hz
        replace h := Lib.hid h
        replace hB := Lib.hid hB
        replace hbut := Lib.hid hbut
        replace Qr := Lib.hid Qr
        go_wp2
        go_loopw [33] (fun v wq => ∃ p : Nat, p ≤ k ∧ v = .int .i64 p ∧ wq.heap[w2.heap.size]? = some (.cells (sqCells k (ngF k (adF k A k) p 0)) 73 (0, 0)) ∧ But w2.heap.size W3 wq ∧ Below w.heap.size w wq) (fun v _ => k - (intOf v).toNat)
        case atStart => exact ⟨0, Nat.zero_le _, rfl, hB.out, hbut.out, hbel⟩
        case round =>
          clear c0 hB hbut hbel Rr Qr hsz
          rename World => wo
          obtain ⟨p, hp, rfl, hB, hbut, hbel⟩ := hrel
          have Qr := hbut.get Q3.out (show w.heap.size ≠ w2.heap.size by omega)
          have c0 := sq_cell0 Qr
          have Rr := Lib.hid (hbut.get R3.out (show w.heap.size + 1 ≠ w2.heap.size by omega))
          replace Qr := Lib.hid Qr
          by_cases hlp : p < k
          · replace hB := Lib.hid hB
            replace hbut := Lib.hid hbut
            go_wp2
            go_loopw [38] (fun v wq => ∃ q : Nat, q ≤ k ∧ v = .int .i64 q ∧ wq.heap[w2.heap.size]? = some (.cells (sqCells k (ngF k (adF k A k) p q)) 73 (0, 0)) ∧ But w2.heap.size W3 wq ∧ Below w.heap.size w wq) (fun v _ => k - (intOf v).toNat)
            case atStart => exact ⟨0, Nat.zero_le _, rfl, hB.out, hbut.out, hbel⟩
            case round =>
              clear c0 hB hbut hbel Rr Qr
              obtain ⟨q, hq, rfl, hB, hbut, hbel⟩ := hrel
              by_cases hlq : q < k
              · have c1 := sq_cell hB (i := p) (j := q) (by omega) (by omega)
                have f1 := frozen_of_row _ w2.heap.size (1 + p * 6 + q) _ 73 hB
                have hset := sq_set hB (i := p) (j := q) (by omega) (by omega) (-(ngF k (adF k A k) p q p q))
                rw [ngF_step _ _ _ _ hlq] at hset
                have hv : wrap64 (-wrap64 (ngF k (adF k A k) p q p q)) = wrap64 (-(ngF k (adF k A k) p q p q)) := wrap_neg _
                generalize wrap64 (-(ngF k (adF k A k) p q p q)) = nv at *
                generalize wrap64 (ngF k (adF k A k) p q p q) = x1 at *
                replace hB := Lib.hid hB
                replace hset := Lib.hid hset
                replace hv := Lib.hid hv
                replace hbut := Lib.hid hbut
                go_wp2
                go_region
                go_wp2
                go_roundw
                case rel =>
                  have hset := hset.out
                  rw [← hv.out] at hset
                  exact ⟨q + 1, by omega, by go_num, hset, hbut.out.set _ _, (hbel.setCell (p := ⟨w2.heap.size, 1 + p * 6 + q, none⟩) (by show w.heap.size ≤ w2.heap.size; omega) _).drew⟩
                case measure => simp [intOf]; omega
              · obtain rfl : q = k := by omega
                rw [ngF_next] at hB
                replace hB := Lib.hid hB
                replace hbut := Lib.hid hbut
                go_wp2
                go_roundw
                case rel => exact ⟨p + 1, by omega, by go_num, hB.out, hbut.out, hbel⟩
                case measure => simp [intOf]; omega
          · obtain rfl : p = k := by omega
            replace hB := Lib.hid hB
            replace hbut := Lib.hid hbut
            go_wp2_with (first
              | (refine wpList_load_row rfl 73 _ rfl w2.heap.size rfl _ _ _ _ hB.out Tryd.underlying73 rfl (infoSq' _ _) ?_)
              | (refine wpList_store_row rfl 73 _ _ rfl (w.heap.size + 1) _ rfl rfl _ _ Rr.out (infoSq' _ _) (sizeSq _ _ _ _) (sq_one _ _) ?_))
            refine bodyPost_ret (v := .agg (sqCells p (ngF p (adF p A p) p 0))) (results_cell_row rfl _ _ (w.heap.size + 1) 73 _ (0, 0) _ rfl (setRow_heap _ _ _ _ _ _ Rr.out) Tryd.underlying73 rfl (infoSq' _ _)) rfl ?_
            refine ⟨⟨_, rfl, fun i j hi hj => ?_⟩, below_setRow hbel _ _ (by omega)⟩
            have hn0 : 0 < p := by omega
            rw [ngF_end _ hi hj, adF_end A hi hj]
            have h' := h.out
            unfold Mx.sg
            rw [if_neg (by omega), Int.neg_mul, Int.one_mul, Int.neg_neg]
      · have e1 : ((k : Int) % 2 == 0) = false := by rw [beq_eq_false_iff_ne]; omega
        have e2 : ((k : Int).tmod 2 == 0) = false := by rw [beq_eq_false_iff_ne, Int.tmod_eq_emod_of_nonneg (by omega)]; omega
        replace h := Lib.hid h
        replace hB := Lib.hid hB
        replace hbut := Lib.hid hbut
        replace Qr := Lib.hid Qr
        go_wp2_with (first
          | (refine wpList_load_row rfl 73 _ rfl w2.heap.size rfl _ _ _ _ hB.out Tryd.underlying73 rfl (infoSq' _ _) ?_)
          | (refine wpList_store_row rfl 73 _ _ rfl (w.heap.size + 1) _ rfl rfl _ _ Rr.out (infoSq' _ _) (sizeSq _ _ _ _) (sq_one _ _) ?_))
        refine bodyPost_ret (v := .agg (sqCells k (adF k A k))) (results_cell_row rfl _ _ (w.heap.size + 1) 73 _ (0, 0) _ rfl (setRow_heap _ _ _ _ _ _ Rr.out) Tryd.underlying73 rfl (infoSq' _ _)) rfl ?_
        refine ⟨⟨_, rfl, fun i j hi hj => ?_⟩, below_setRow hbel _ _ (by omega)⟩
        rw [adF_end A hi hj]
        have h' := h.out
        unfold Mx.sg
        rw [if_pos (by omega), Int.one_mul]
end Go.Proofs.YtcenhemlgapkeaaDoor
