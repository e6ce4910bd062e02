/- The call matrix.Power. Condition: rows that lie as lists of ints of 64 bits. -/
import Derived.Test.YtcenhemlgapkeaaDoorBdT
import Derived.Test.YtcenhemlgapkeaaDoorSqRead
namespace Go.Proofs.YtcenhemlgapkeaaDoor
open Go.RowKit

namespace M
def mpower (x : Arr) (k : Int) : Except Int Arr :=
  if sqFault x 6 = 0 then (if k < 0 then .error 6 else .ok ⟨false, [(sqN x : Int), (sqN x : Int)], sqList (sqN x) (Mx.pw (sqN x) (sqA (sqN x) x.d) k.toNat)⟩) else .error (sqFault x 6)
end M

theorem BoxF.same {w v : World} {N : Nat} {ch : Bool} {a : Option Addr} {m c : Nat} {b : Option Addr} {n z : Nat} (h : BoxF w N ch a m c b n z) (e : v.heap[N]? = w.heap[N]?) : BoxF v N ch a m c b n z := by
  obtain ⟨⟨x0, x1, x2⟩, y0, y1, y2⟩ := h
  exact ⟨⟨(cell_of_eq e 0).trans x0, (cell_of_eq e 1).trans x1, (cell_of_eq e 2).trans x2⟩, (frozen_of_eq e 0).trans y0, (frozen_of_eq e 1).trans y1, (frozen_of_eq e 2).trans y2⟩
theorem BoxF.setRow {w : World} {N : Nat} {ch : Bool} {a : Option Addr} {m c : Nat} {b : Option Addr} {n z : Nat} (h : BoxF w N ch a m c b n z) (g : Nat) (C : Array Value) (hne : N ≠ g) : BoxF (w.setRow g C) N ch a m c b n z :=
  h.same (setRow_other w g N C hne)

theorem timesM_in {n : Nat} (A B : Nat → Nat → Int) {i j : Nat} (hi : i < n) (hj : j < n) : timesM n A B i j = Mx.mul n A B i j := if_pos ⟨hi, hj⟩
theorem pw_congr {n : Nat} {A B : Nat → Nat → Int} (h : ∀ i j, i < n → j < n → A i j = B i j) (k : Nat) : ∀ i j, i < n → j < n → Mx.pw n A k i j = Mx.pw n B k i j := by
  induction k with
  | zero => intro i j _ _; rfl
  | succ k ih => intro i j hi hj; exact Mx.mul_congr (fun l hl => h i l hi hl) (fun l hl => ih l j hl hj)
theorem pw_square (n : Nat) (Q : Nat → Nat → Int) (m : Nat) : ∀ i j, i < n → j < n → Mx.pw n (timesM n Q Q) m i j = Mx.pw n Q (2 * m) i j := by
  induction m with
  | zero => intro i j _ _; rfl
  | succ m ih =>
    intro i j hi hj
    show Mx.mul n (timesM n Q Q) (Mx.pw n (timesM n Q Q) m) i j = _
    rw [show 2 * (m + 1) = (2 * m + 1) + 1 by omega]
    show _ = Mx.mul n Q (Mx.mul n Q (Mx.pw n Q (2 * m))) i j
    rw [← Mx.mul_mul]
    exact Mx.mul_congr (fun l hl => timesM_in _ _ hi hl) (fun l hl => ih l j hl hj)
theorem unitM_one {n i j : Nat} (hi : i < n) : unitM n 1 i j = Mx.one i j := by
  unfold unitM Mx.one
  by_cases h : i = j
  · rw [if_pos ⟨h, hi⟩, if_pos h]
  · rw [if_neg (fun k => h k.1), if_neg h]

theorem lt_of_some' {w : World} {b : Nat} {o : Obj} (hb : w.heap[b]? = some o) : b < w.heap.size := (Array.getElem?_eq_some_iff.1 hb).1
/-- What the loop keeps of the two squares. -/
def PowInv (n : Nat) (A : Nat → Nat → Int) (K k : Nat) (O Q : Nat → Nat → Int) : Prop := ∀ i j, i < n → j < n → Mx.mul n O (Mx.pw n Q k) i j = Mx.pw n A K i j
theorem powInv_start (n : Nat) (A : Nat → Nat → Int) (K : Nat) : PowInv n A K K (unitM n 1) A := fun i j hi hj => by
  rw [Mx.mul_congr (fun l _ => unitM_one hi) (fun l _ => rfl)]
  exact Mx.mul_one_l hi _
theorem powInv_even {n : Nat} {A O Q : Nat → Nat → Int} {K m : Nat} (h : PowInv n A K (2 * m) O Q) : PowInv n A K m O (timesM n Q Q) := fun i j hi hj => by
  rw [← h i j hi hj]
  exact Mx.mul_congr (fun _ _ => rfl) (fun l hl => pw_square n Q m l j hl hj)
theorem powInv_odd {n : Nat} {A O Q : Nat → Nat → Int} {K m : Nat} (h : PowInv n A K (2 * m + 1) O Q) : PowInv n A K m (timesM n O Q) (timesM n Q Q) := fun i j hi hj => by
  rw [← h i j hi hj]
  show _ = Mx.mul n O (Mx.mul n Q (Mx.pw n Q (2 * m))) i j
  rw [← Mx.mul_mul]
  exact Mx.mul_congr (fun l hl => timesM_in _ _ hi hl) (fun l hl => pw_square n Q m l j hl hj)
theorem powInv_end {n : Nat} {A O Q : Nat → Nat → Int} {K : Nat} (h : PowInv n A K 0 O Q) : sqList n O = sqList n (Mx.pw n A K) :=
  sqList_congr fun i j hi hj => by rw [← h i j hi hj]; congr 1; exact (Mx.mul_one_r hj O).symm

set_option maxRecDepth 20000 in
set_option maxHeartbeats 8000000 in
theorem mpower_any (K : Int) (ch : Bool) (a b : Option Addr) (s d : List Int) (m c n z : Nat) (w : World) (hs : Row w a s) (hd : Row w b d) (ls : s.length ≤ maxLen) (ld : d.length ≤ maxLen) (hd64 : All64 d) (hK : I64 K) (em : m = s.length) (en : n = d.length) :
    Calls Tryd.prog 22 #[arrV ch a m c b n z, .int .i64 K] w fun e w' => ArrPostF (M.mpower ⟨ch, s, d⟩ K) w e w' := by
  subst em
  subst en
  have hread := fun w h1 h2 => sqRead_any ch a b s d _ c _ z w h1 h2 ls ld hd64 rfl rfl
  have E := ((((Env.start w).addRow hd).addRow hs).box ch a s.length c b d.length z).box false none 0 0 none 0 0
  rw [World.size_alloc] at E
  replace hread := Lib.hid hread
  by_cases hf : M.sqFault ⟨ch, s, d⟩ 6 = 0
  case neg =>
    have hr := Lib.hid (show M.mpower ⟨ch, s, d⟩ K = .error (M.sqFault ⟨ch, s, d⟩ 6) from if_neg hf)
    replace hf := Lib.hid hf
    go_enter Tryd.func22, Tryd.ntmps22
    go_wp2_with fail
    refine (hread.out _ (E.getRow 2 rfl) (E.getRow 3 rfl)).mono ?_
    intro e w1 hp
    obtain rfl := hp.2.1 hf.out
    have hb := hp.2.2
    clear hp
    replace E := E.step hb
    have n1 : w.heap.size + 1 < w1.heap.size := (E.getBox 0 rfl).lt
    clear hb
    generalize M.sqFault ⟨ch, s, d⟩ 6 = k at *
    have X := heap_alloc_new w1 (.cells (sqCells 0 zeroM) 73)
    have E2 := E.step (below_setRow (push (start w1) (.cells (sqCells 0 zeroM) 73)) w1.heap.size (sqCells 0 zeroM) (Nat.le_refl _))
    obtain ⟨⟨u0, u1, u2⟩, g0, g1, g2⟩ := E2.getBox 0 rfl
    go_wp2_with (first
      | (refine wpList_allocBy rfl 73 rfl (some 6) rfl w1.heap.size rfl (sqCells 0 zeroM) Tryd.zeroSq ?_)
      | (refine wpList_store_row rfl 73 _ _ rfl w1.heap.size _ rfl rfl _ _ X (infoSq' _ _) (sizeSq _ _ _ _) (sq_one _ _) ?_))
    refine bodyPost_ret (v := .tuple #[arrV false none 0 0 none 0 0, .iface 34 (.int .i64 k)]) (by simp [results, Tryd.results22, go_sem, cell?_set_same, u0, u1, u2]) rfl ?_
    exact .error hr.out rfl (set3 E2.bel (by omega) _ _ _)
  by_cases hk0 : K < 0
  case pos =>
    have hr := Lib.hid (show M.mpower ⟨ch, s, d⟩ K = .error 6 from (if_pos hf).trans (if_pos hk0))
    have hk : decide (K < 0) = true := decide_eq_true hk0
    replace hf := Lib.hid hf
    clear hk0
    go_enter Tryd.func22, Tryd.ntmps22
    go_wp2_with fail
    refine (hread.out _ (E.getRow 2 rfl) (E.getRow 3 rfl)).mono ?_
    intro e w1 hp
    obtain ⟨rfl, hn⟩ := hp.1 hf.out
    have hb := hp.2.2
    clear hp
    replace E := E.step hb
    have n1 : w.heap.size + 1 < w1.heap.size := (E.getBox 0 rfl).lt
    clear hb
    dsimp only at hn ⊢
    generalize M.sqN ⟨ch, s, d⟩ = k at *
    generalize M.sqA k d = A at *
    have X := heap_alloc_new w1 (.cells (sqCells 0 zeroM) 73)
    have E2 := E.step (below_setRow (push (start w1) (.cells (sqCells 0 zeroM) 73)) w1.heap.size (sqCells k A) (Nat.le_refl _))
    obtain ⟨⟨u0, u1, u2⟩, g0, g1, g2⟩ := E2.getBox 0 rfl
    go_wp2_with (first
      | (refine wpList_allocBy rfl 73 rfl (some 6) rfl w1.heap.size rfl (sqCells 0 zeroM) Tryd.zeroSq ?_)
      | (refine wpList_store_row rfl 73 _ _ rfl w1.heap.size _ rfl rfl _ _ X (infoSq' _ _) (sizeSq _ _ _ _) (sq_one _ _) ?_))
    refine bodyPost_ret (v := .tuple #[arrV false none 0 0 none 0 0, .iface 34 (.int .i64 6)]) (by simp [results, Tryd.results22, go_sem, cell?_set_same, u0, u1, u2]) rfl ?_
    exact .error hr.out rfl (set3 E2.bel (by omega) _ _ _)
  have hr := Lib.hid (show M.mpower ⟨ch, s, d⟩ K = .ok ⟨false, [(M.sqN ⟨ch, s, d⟩ : Int), (M.sqN ⟨ch, s, d⟩ : Int)], sqList (M.sqN ⟨ch, s, d⟩) (Mx.pw (M.sqN ⟨ch, s, d⟩) (M.sqA (M.sqN ⟨ch, s, d⟩) d) K.toNat)⟩ from (if_pos hf).trans (if_neg hk0))
  have hk : decide (K < 0) = false := decide_eq_false hk0
  obtain ⟨kk, hkk⟩ : ∃ kk : Nat, K = kk := ⟨K.toNat, by omega⟩
  subst hkk
  rw [Int.toNat_natCast] at hr
  replace hf := Lib.hid hf
  clear hk0
  have hK2 := hK.2
  clear hK
  go_enter Tryd.func22, Tryd.ntmps22
  go_wp2_with fail
  refine (hread.out _ (E.getRow 2 rfl) (E.getRow 3 rfl)).mono ?_
  intro e w1 hp
  obtain ⟨rfl, hn⟩ := hp.1 hf.out
  have hb := hp.2.2
  clear hp
  replace E := E.step hb
  have n1 : w.heap.size + 1 < w1.heap.size := (E.getBox 0 rfl).lt
  clear hb
  dsimp only at hn ⊢
  generalize M.sqN ⟨ch, s, d⟩ = k at *
  generalize M.sqA k d = A at *
  have X := heap_alloc_new w1 (.cells (sqCells 0 zeroM) 73)
  have Y := setRow_heap _ _ _ (sqCells k A) _ _ X
  have E2 := E.step (below_setRow (push (start w1) (.cells (sqCells 0 zeroM) 73)) w1.heap.size (sqCells k A) (Nat.le_refl _))
  have SZ : ((w1.alloc (.cells (sqCells 0 zeroM) 73)).setRow w1.heap.size (sqCells k A)).heap.size = w1.heap.size + 1 := by simp
  have c0 := sq_cell0 Y
  have B2 := E2.getBox 0 rfl
  have hb2 := E2.bel
  clear E E2
  have wone : wrap64 1 = 1 := wrap_id (by unfold I64; omega)
  have hunit := fun w => unit_any k 1 w hn
  rw [wone] at hunit
  replace hunit := Lib.hid hunit
  clear wone
  replace SZ := Lib.hid SZ
  replace B2 := Lib.hid B2
  go_wp2_with (first
    | (refine wpList_allocBy rfl 73 rfl (some 6) rfl w1.heap.size rfl (sqCells 0 zeroM) Tryd.zeroSq ?_)
    | (refine wpList_store_row rfl 73 _ _ rfl w1.heap.size _ rfl rfl _ _ X (infoSq' _ _) (sizeSq _ _ _ _) (sq_one _ _) ?_))
  refine (hunit.out _).mono ?_
  rintro e w2 ⟨rfl, hb⟩
  have Y2 := (hb.block w1.heap.size (by rw [SZ.out]; omega)).trans Y
  have B3 := B2.out.below hb
  have hb3 := below_trans hb2 hb
  have S2 := hb.size
  rw [SZ.out] at S2
  clear X Y c0 hb2 hb B2 SZ
  have X := heap_alloc_new w2 (.cells (sqCells 0 zeroM) 73)
  have Z := setRow_heap _ _ _ (sqCells k (unitM k 1)) _ _ X
  have Y3 := ((setRow_other (w2.alloc (.cells (sqCells 0 zeroM) 73)) w2.heap.size w1.heap.size (sqCells k (unitM k 1)) (by omega)).trans (heap_alloc_old w2 (.cells (sqCells 0 zeroM) 73) (lt_of_some' Y2))).trans Y2
  have B4 := (B3.below (push (start w2) (.cells (sqCells 0 zeroM) 73))).setRow w2.heap.size (sqCells k (unitM k 1)) (by omega)
  have hb4 := below_setRow (hb3.alloc hb3.size (.cells (sqCells 0 zeroM) 73)) w2.heap.size (sqCells k (unitM k 1)) hb3.size
  clear Y2 B3 hb3
  obtain ⟨gq, hgq⟩ : ∃ gq, gq = w1.heap.size := ⟨_, rfl⟩
  obtain ⟨go, hgo⟩ : ∃ go, go = w2.heap.size := ⟨_, rfl⟩
  go_wp2_with (first
    | (refine wpList_allocBy rfl 73 rfl (some 8) rfl w2.heap.size rfl (sqCells 0 zeroM) Tryd.zeroSq ?_)
    | (refine wpList_store_row rfl 73 _ _ rfl w2.heap.size _ rfl rfl _ _ X (infoSq' _ _) (sizeSq _ _ _ _) (sq_one _ _) ?_))
  go_simp
  rw [← hgq, ← hgo] at Y3
  rw [← hgq] at S2 n1
  rw [← hgo] at Z S2 B4 hb4
  rw [← hgq, ← hgo]
  replace Y3 := Lib.hid Y3
  replace Z := Lib.hid Z
  replace B4 := Lib.hid B4
  replace hgq := Lib.hid hgq
  replace hgo := Lib.hid hgo
  clear X
  go_loopw [1] (fun v wr => ∃ (k' : Nat) (O Q : Nat → Nat → Int), k' ≤ kk ∧ v = .int .i64 k' ∧ wr.heap[gq]? = some (.cells (sqCells k Q) 73 (0, 0)) ∧ wr.heap[go]? = some (.cells (sqCells k O) 73 (0, 0)) ∧
      BoxF wr (w.heap.size + 1) false none 0 0 none 0 0 ∧ PowInv k A kk k' O Q ∧ Below w.heap.size w wr) (fun v _ => (intOf v).toNat)
  case atStart => exact ⟨kk, _, _, Nat.le_refl _, rfl, Y3.out, Z.out, B4.out, powInv_start _ _ _, hb4⟩
  case round =>
    clear Y3 Z B4 hb4
    obtain ⟨k', O, Q, hk', rfl, hq, ho, hbox, hinv, hbel⟩ := hrel
    have gne : gq ≠ go := by omega
    have lq := lt_of_some' hq
    have lo := lt_of_some' ho
    have b1 : w.heap.size + 1 < gq := n1
    by_cases hpos : 0 < k'
    · have and1 := and_one (y := (k' : Int)) (by omega) (by unfold I64; omega)
      rcases Nat.mod_two_eq_zero_or_one k' with hpar | hpar
      · obtain ⟨m, rfl⟩ : ∃ m, k' = 2 * m := ⟨k' / 2, by omega⟩
        have e1 : (bits .and .i64 ((2 * m : Nat) : Int) 1 == 1) = false := by rw [and1, beq_eq_false_iff_ne]; omega
        have e3 := Lib.hid (powInv_even hinv)
        clear hinv and1
        obtain ⟨k2, hk2⟩ : ∃ k2, k2 = 2 * m := ⟨_, rfl⟩
        rw [← hk2] at e1 hpos hk' hpar ⊢
        have e4 : (k2 : Int) / 2 = (m : Int) := by omega
        replace hk2 := Lib.hid hk2
        replace hbox := Lib.hid hbox
        go_wp2_with (first
          | (refine wpList_load_row rfl 73 _ rfl gq rfl _ _ _ _ hq Tryd.underlying73 rfl (infoSq' _ _) ?_))
        refine (times_any k k Q Q wr hn).mono ?_
        rintro e w5 ⟨rfl, hb⟩
        have hq5 := (hb.block gq lq).trans hq
        have ho5 := (hb.block go lo).trans ho
        have hbox5 := hbox.out.below hb
        have ho6 := (setRow_other w5 gq go (sqCells k (timesM k Q Q)) (Ne.symm gne)).trans ho5
        have hq6 := setRow_heap _ _ _ (sqCells k (timesM k Q Q)) _ _ hq5
        have hbox6 := hbox5.setRow gq (sqCells k (timesM k Q Q)) (by omega)
        have hb6 := below_setRow (below_trans hbel hb) gq (sqCells k (timesM k Q Q)) (by omega)
        replace ho6 := Lib.hid ho6
        replace hq6 := Lib.hid hq6
        replace hbox6 := Lib.hid hbox6
        clear hq ho hbox hbel hbox5 ho5
        go_wp2_with (first
          | (refine wpList_store_row rfl 73 _ _ rfl gq _ rfl rfl _ _ hq5 (infoSq' _ _) (sizeSq _ _ _ _) (sq_one _ _) ?_))
        go_roundw
        case rel => exact ⟨m, O, timesM k Q Q, by have := hk2.out; omega, by first | rfl | (rw [e4]) | go_num, hq6.out, ho6.out, hbox6.out, e3.out, hb6⟩
        case measure => simp [intOf]; have := hk2.out; omega
      · obtain ⟨m, rfl⟩ : ∃ m, k' = 2 * m + 1 := ⟨k' / 2, by omega⟩
        have e1 : (bits .and .i64 ((2 * m + 1 : Nat) : Int) 1 == 1) = true := by rw [and1, beq_iff_eq]; omega
        have e3 := Lib.hid (powInv_odd hinv)
        clear hinv and1
        obtain ⟨k2, hk2⟩ : ∃ k2, k2 = 2 * m + 1 := ⟨_, rfl⟩
        rw [← hk2] at e1 hpos hk' hpar ⊢
        have e4 : (k2 : Int) / 2 = (m : Int) := by omega
        replace hk2 := Lib.hid hk2
        replace hbox := Lib.hid hbox
        go_wp2_with (first
          | (refine wpList_load_row rfl 73 _ rfl go rfl _ _ _ _ ho Tryd.underlying73 rfl (infoSq' _ _) ?_)
          | (refine wpList_load_row rfl 73 _ rfl gq rfl _ _ _ _ hq Tryd.underlying73 rfl (infoSq' _ _) ?_))
        refine (times_any k k O Q wr hn).mono ?_
        rintro e w5 ⟨rfl, hb⟩
        have hq5 := (hb.block gq lq).trans hq
        have ho5 := (hb.block go lo).trans ho
        have hbox5 := hbox.out.below hb
        have hq6 := (setRow_other w5 go gq (sqCells k (timesM k O Q)) gne).trans hq5
        have ho6 := setRow_heap _ _ _ (sqCells k (timesM k O Q)) _ _ ho5
        have hbox6 := hbox5.setRow go (sqCells k (timesM k O Q)) (by omega)
        have hb6 := below_setRow (below_trans hbel hb) go (sqCells k (timesM k O Q)) (by omega)
        have lq6 := lt_of_some' hq6
        have lo6 := lt_of_some' ho6
        clear hq ho hbox hbel hbox5 hb hq5
        replace ho6 := Lib.hid ho6
        replace hbox6 := Lib.hid hbox6
        go_wp2_with (first
          | (refine wpList_store_row rfl 73 _ _ rfl go _ rfl rfl _ _ ho5 (infoSq' _ _) (sizeSq _ _ _ _) (sq_one _ _) ?_)
          | (refine wpList_load_row rfl 73 _ rfl gq rfl _ _ _ _ hq6 Tryd.underlying73 rfl (infoSq' _ _) ?_))
        refine (times_any k k Q Q _ hn).mono ?_
        rintro e w7 ⟨rfl, hb⟩
        have hq7 := (hb.block gq lq6).trans hq6
        have ho7 := (hb.block go lo6).trans ho6.out
        have hbox7 := hbox6.out.below hb
        have ho8 := (setRow_other w7 gq go (sqCells k (timesM k Q Q)) (Ne.symm gne)).trans ho7
        have hq8 := setRow_heap _ _ _ (sqCells k (timesM k Q Q)) _ _ hq7
        have hbox8 := hbox7.setRow gq (sqCells k (timesM k Q Q)) (by omega)
        have hb8 := below_setRow (below_trans hb6 hb) gq (sqCells k (timesM k Q Q)) (by omega)
        replace ho8 := Lib.hid ho8
        replace hq8 := Lib.hid hq8
        replace hbox8 := Lib.hid hbox8
        clear hq6 ho6 hbox6 hb6 hbox7 ho7 ho5 hb
        go_wp2_with (first
          | (refine wpList_store_row rfl 73 _ _ rfl gq _ rfl rfl _ _ hq7 (infoSq' _ _) (sizeSq _ _ _ _) (sq_one _ _) ?_))
        go_roundw
        case rel => exact ⟨m, timesM k O Q, timesM k Q Q, by have := hk2.out; omega, by first | rfl | (rw [e4]) | go_num, hq8.out, ho8.out, hbox8.out, e3.out, hb8⟩
        case measure => simp [intOf]; have := hk2.out; omega
    · obtain rfl : k' = 0 := by omega
      have hend := Lib.hid (powInv_end hinv)
      clear hinv hq
      replace hbox := Lib.hid hbox
      go_wp2_with (first
        | (refine wpList_load_row rfl 73 _ rfl go rfl _ _ _ _ ho Tryd.underlying73 rfl (infoSq' _ _) ?_))
      refine (sqTold_any k O wr hn).mono ?_
      rintro e w5 ⟨a5, k5, e5, f5, rfl, ra, rb, fa, fb, hk5, hb⟩
      have hbox5 := hbox.out.below hb
      obtain ⟨⟨z0, z1, z2⟩, g0, g1, g2⟩ := hbox5
      have hb5 := below_trans hbel hb
      have ra' : Row (((w5.setCell ⟨w.heap.size + 1, 0, none⟩ (.bool false)).setCell ⟨w.heap.size + 1, 1, none⟩ (.slice a5 2 k5)).setCell ⟨w.heap.size + 1, 2, none⟩ (.slice e5 (sqList k O).length f5)) a5 [(k : Int), (k : Int)] := ((Row.set_ne ra z0 (by simp)).set_ne ((World.cell?_setCell_other _ _ _ _ (by simp)).trans z1) (by simp)).set_ne ((World.cell?_setCell_other _ _ _ _ (by simp)).trans ((World.cell?_setCell_other _ _ _ _ (by simp)).trans z2)) (by simp)
      have rb' : Row (((w5.setCell ⟨w.heap.size + 1, 0, none⟩ (.bool false)).setCell ⟨w.heap.size + 1, 1, none⟩ (.slice a5 2 k5)).setCell ⟨w.heap.size + 1, 2, none⟩ (.slice e5 (sqList k O).length f5)) e5 (sqList k O) := ((Row.set_ne rb z0 (by simp)).set_ne ((World.cell?_setCell_other _ _ _ _ (by simp)).trans z1) (by simp)).set_ne ((World.cell?_setCell_other _ _ _ _ (by simp)).trans ((World.cell?_setCell_other _ _ _ _ (by simp)).trans z2)) (by simp)
      clear hbox
      dsimp only [List.length_cons, List.length_nil, Nat.reduceAdd]
      go_wp2
      refine bodyPost_ret (v := .tuple #[arrV false a5 2 k5 e5 (sqList k O).length f5, .nilIface]) (by simp [results, Tryd.results22, go_sem, cell?_set_same, z0, z1, z2]) rfl ?_
      exact .ok (x := ⟨false, [(k : Int), (k : Int)], sqList k O⟩) (by rw [hr.out, hend.out]) rfl ra' rb' (fa.mono hbel.size) (fb.mono hbel.size) hk5 (set3 hb5 (by omega) _ _ _)

end Go.Proofs.YtcenhemlgapkeaaDoor
