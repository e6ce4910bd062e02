/- The document's Characteristic: over all sets of rows. Condition: at most six rows, in a row of ints. -/
import Derived.Test.YtcenhemlgapkeaaDoorRefMinor
import Derived.Test.YtcenhemlgapkeaaDoorWkMChar
namespace Go.Proofs.YtcenhemlgapkeaaDoor
open Go.RowKit

/-- The first i bits of a number. -/
def bitL (n s i : Nat) : List Bool := (List.range n).map fun l => decide (l < i) && s.testBit l
theorem bitL_length (n s i : Nat) : (bitL n s i).length = n := by simp [bitL]
theorem bitL_zero (n s : Nat) : bitL n s 0 = List.replicate n false := by apply List.ext_getElem <;> simp [bitL]
theorem bitL_set (n s i : Nat) : (bitL n s i).set i (s.testBit i) = bitL n s (i + 1) := by
  apply List.ext_getElem
  · simp [bitL]
  · intro p h1 h2
    rw [List.getElem_set]
    simp only [bitL, List.getElem_map, List.getElem_range]
    by_cases e : i = p
    · subst e; rw [if_pos rfl, decide_eq_true (by omega : i < i + 1), Bool.true_and]
    · rw [if_neg e]
      have : decide (p < i) = decide (p < i + 1) := decide_eq_decide.2 (by omega)
      rw [this]
theorem bitL_places (n s : Nat) : placesTo (bitL n s n) true n = Mx.bitsAt n s := by
  unfold placesTo Mx.bitsAt
  refine List.filter_congr fun k hk => ?_
  have hk := List.mem_range.1 hk
  rw [List.getD_eq_getElem?_getD]
  simp only [bitL, List.getElem?_map, List.getElem?_range hk, Option.map_some, Option.getD_some]
  rw [decide_eq_true hk, Bool.true_and]
  cases s.testBit k <;> rfl
theorem bit_odd {s i l : Nat} (h : l = s / 2 ^ i) : ((l : Int).tmod 2 == 1) = s.testBit i := by
  rw [Nat.testBit_eq_decide_div_mod_eq, ← h, Int.tmod_eq_emod_of_nonneg (by omega), Bool.eq_iff_iff, beq_iff_eq, decide_eq_true_eq]
  clear h; omega
theorem bit_odd' {s i l : Nat} (h : l = s / 2 ^ i) : ((l : Int) % 2 == 1) = s.testBit i := by
  rw [← bit_odd h, Int.tmod_eq_emod_of_nonneg (by omega)]
theorem bit_half' {s i l : Nat} (h : l = s / 2 ^ i) : l / 2 = s / 2 ^ (i + 1) := by
  subst h; rw [Nat.div_div_eq_div_mul, Nat.pow_succ]
theorem bits_le (n s : Nat) : (Mx.bitsAt n s).length ≤ n := by
  have := List.length_filter_le (fun i => s.testBit i) (List.range n)
  rw [List.length_range] at this; exact this

/-- What a set of rows gives to the power k. -/
def setT (n : Nat) (A : Nat → Nat → Int) (k s : Nat) : Int :=
  if k = (Mx.bitsAt n s).length then Mx.sg k * Mx.det (Mx.bitsAt n s).length (Mx.pick A (Mx.bitsAt n s)) else 0
/-- The numbers, by the first s sets. -/
def setL (n : Nat) (A : Nat → Nat → Int) (s : Nat) : List Int := (List.range (n + 1)).map fun j => wrap64 (Mx.S s (setT n A (n - j)))
theorem setL_length (n : Nat) (A : Nat → Nat → Int) (s : Nat) : (setL n A s).length = n + 1 := by simp [setL]
theorem setL_zero (n : Nat) (A : Nat → Nat → Int) : setL n A 0 = List.replicate (n + 1) 0 := by
  apply List.ext_getElem
  · simp [setL]
  · intro p h1 h2
    simp [setL, Mx.S, wrap_id (show I64 0 by unfold I64; omega)]
theorem setL_get {n j : Nat} (A : Nat → Nat → Int) (s : Nat) (h : j < n + 1) : (setL n A s).getD j 0 = wrap64 (Mx.S s (setT n A (n - j))) := by simp [setL, h]
theorem setL_end (n : Nat) (A : Nat → Nat → Int) : setL n A (2 ^ n) = charL n A := by
  unfold setL charL
  refine List.map_congr_left fun j _ => ?_
  rw [Mx.chi_sets]; rfl
theorem setL_step {n : Nat} (A : Nat → Nat → Int) (s d : Nat) (c : Int) (hd : n = (Mx.bitsAt n s).length + d) (hc : wrap64 c = wrap64 (Mx.sg (Mx.bitsAt n s).length * Mx.det (Mx.bitsAt n s).length (Mx.pick A (Mx.bitsAt n s)))) :
    (setL n A s).set d (wrap64 (wrap64 (Mx.S s (setT n A (n - d))) + c)) = setL n A (s + 1) := by
  apply List.ext_getElem
  · simp [setL]
  · intro p h1 h2
    rw [setL_length] at h2
    rw [List.getElem_set]
    simp only [setL, List.getElem_map, List.getElem_range, Mx.S]
    have e : setT n A (n - p) s = if p = d then Mx.sg (Mx.bitsAt n s).length * Mx.det (Mx.bitsAt n s).length (Mx.pick A (Mx.bitsAt n s)) else 0 := by
      unfold setT
      by_cases h : p = d
      · rw [if_pos h, if_pos (by omega), show n - p = (Mx.bitsAt n s).length by omega]
      · rw [if_neg h, if_neg (by omega)]
    rw [e]
    by_cases h : d = p
    · subst h
      rw [if_pos rfl, if_pos rfl, wrap_add_l]
      exact wrap_congr_add rfl hc
    · rw [if_neg h, if_neg (fun k => h k.symm), Int.add_zero]
theorem set_odd {n s : Nat} (A : Nat → Nat → Int) (h : (Mx.bitsAt n s).length % 2 = 1) : wrap64 (wrap64 (-(wrap64 (Mx.det (Mx.bitsAt n s).length (Mx.pick A (Mx.bitsAt n s)))))) = wrap64 (Mx.sg (Mx.bitsAt n s).length * Mx.det (Mx.bitsAt n s).length (Mx.pick A (Mx.bitsAt n s))) := by
  rw [wrap_wrap, wrap_neg]; unfold Mx.sg; rw [if_neg (by omega), Int.neg_mul, Int.one_mul]
theorem set_even {n s : Nat} (A : Nat → Nat → Int) (h : (Mx.bitsAt n s).length % 2 = 0) : wrap64 (wrap64 (Mx.det (Mx.bitsAt n s).length (Mx.pick A (Mx.bitsAt n s)))) = wrap64 (Mx.sg (Mx.bitsAt n s).length * Mx.det (Mx.bitsAt n s).length (Mx.pick A (Mx.bitsAt n s))) := by
  rw [wrap_wrap]; unfold Mx.sg; rw [if_pos h, Int.one_mul]
theorem odd_num (m : Nat) : ((m : Int).tmod 2 == 1) = decide (m % 2 = 1) := by
  rw [Int.tmod_eq_emod_of_nonneg (by omega), Bool.eq_iff_iff, beq_iff_eq, decide_eq_true_eq]; omega
theorem odd_num' (m : Nat) : ((m : Int) % 2 == 1) = decide (m % 2 = 1) := by
  rw [← odd_num, Int.tmod_eq_emod_of_nonneg (by omega)]
theorem pow6 {n i : Nat} (hn : n ≤ 6) (hi : i ≤ n) : 2 ^ i ≤ 64 := by
  have : 2 ^ i ≤ 2 ^ 6 := Nat.pow_le_pow_right (by decide) (by omega)
  simpa using this

set_option maxRecDepth 20000 in
set_option maxHeartbeats 16000000 in
theorem refChar_any (n : Nat) (A : Nat → Nat → Int) (b : Option Addr) (z : Nat) (w : World) (hn : n ≤ 6) (hrow : Row w b (sqList n A)) :
    Calls Tryd.prog 25 #[.int .i64 (n : Int), .slice b (n * n) z] w (BlockPost (n + 1) (charL n A) w) := by
  have hmin := fun ur kr uc kc R C w h1 h2 h3 h4 h5 => refMinor_any n A b z ur kr uc kc R C w hn h1 h2 h3 h4 h5
  have hdet := fun m (hm : m ≤ 6) B b z w h => refDet_any m B b z w hm h
  obtain ⟨N, hNN⟩ : ∃ N, N = n * n := ⟨_, rfl⟩
  rw [← hNN] at hmin ⊢
  have hmkb := fun W => run_make_bools n (by omega) W
  have hmki := fun W => run_make_ints (n + 1) (by omega) W
  rw [Int.natCast_add, show ((1 : Nat) : Int) = 1 from rfl] at hmki
  have h0 : (w.alloc (.cells (zeroCells (n + 1)) 3)).heap[w.heap.size]? = some (.cells (cellsOf (setL n A 0)) 3 (0, 0)) := by rw [heap_alloc_new, setL_zero, room_cells]
  have hb0 := push (start w) (.cells (zeroCells (n + 1)) 3)
  have hsz : w.heap.size < (w.alloc (.cells (zeroCells (n + 1)) 3)).heap.size := by simp
  replace hNN := Lib.hid hNN
  replace hmin := Lib.hid hmin
  replace hdet := Lib.hid hdet
  replace hrow := Lib.hid hrow
  go_enter Tryd.func25, Tryd.ntmps25
  go_wp2
  generalize hwa : w.alloc (.cells (zeroCells (n + 1)) 3) = wa at *
  replace hwa := Lib.hid hwa
  go_loop [6, 7] (fun v6 v7 => ∃ i P : Nat, i ≤ n ∧ Hid (P = 2 ^ i) ∧ P ≤ 64 ∧ v7 = .int .i64 i ∧ v6 = .int .i64 (P : Int)) (fun _ v => n - (intOf v).toNat)
  case atStart => exact ⟨0, 1, Nat.zero_le _, Lib.hid rfl, by decide, rfl, rfl⟩
  case round =>
    obtain ⟨i, P, hi, hP, hP64, rfl, rfl⟩ := hrel
    by_cases hli : i < n
    · have hP2 := Lib.hid (show P * 2 = 2 ^ (i + 1) by rw [Nat.pow_succ, hP.out])
      have hP3 : P * 2 ≤ 64 := by rw [hP2.out]; exact pow6 hn hli
      go_wp2
      go_round
      case rel => exact ⟨i + 1, P * 2, hli, hP2, hP3, num1 i, by go_num⟩
      case measure => exact meas1 hli
    · obtain rfl : n = i := by omega
      go_wp2
      rename World => w1
      go_loopw [8] (fun v8 wr => ∃ s : Nat, s ≤ P ∧ v8 = .int .i64 s ∧ wr.heap[w.heap.size]? = some (.cells (cellsOf (setL n A s)) 3 (0, 0)) ∧ Below w.heap.size w wr ∧ w.heap.size < wr.heap.size) (fun v _ => P - (intOf v).toNat)
      case atStart => exact ⟨0, Nat.zero_le _, rfl, h0, hb0, hsz⟩
      case round =>
        clear h0 hb0 hsz
        obtain ⟨s, hs, rfl, hg, hbel, hsz⟩ := hrel
        by_cases hls : s < P
        · have h1 : (wr.alloc (.cells (boolCells (List.replicate n false)) 4)).heap[wr.heap.size]? = some (.cells (boolCells (bitL n s 0)) 4 (0, 0)) := by
            rw [bitL_zero]; exact heap_alloc_new _ _
          have hb1 := push (start wr) (.cells (boolCells (List.replicate n false)) 4)
          obtain ⟨w2, hw2⟩ : ∃ w2, w2 = wr := ⟨_, rfl⟩
          subst hw2
          replace hg := Lib.hid hg
          go_wp2
          generalize hwb : w2.alloc (.cells (boolCells (List.replicate n false)) 4) = wb at *
          replace hwb := Lib.hid hwb
          go_loopw [10, 11] (fun v10 v11 wr => ∃ i l : Nat, i ≤ n ∧ Hid (l = s / 2 ^ i) ∧ l ≤ 64 ∧ v11 = .int .i64 i ∧ v10 = .int .i64 (l : Int) ∧ wr.heap[w2.heap.size]? = some (.cells (boolCells (bitL n s i)) 4 (0, 0)) ∧ Below w2.heap.size w2 wr) (fun _ v _ => n - (intOf v).toNat)
          case atStart => exact ⟨0, s, Nat.zero_le _, Lib.hid (by rw [Nat.pow_zero, Nat.div_one]), by omega, rfl, rfl, h1, hb1⟩
          case round =>
            clear h1 hb1
            obtain ⟨i, l, hi, hl, hl64, rfl, rfl, h1, hb1⟩ := hrel
            by_cases hli : i < n
            · have c1 := bool_cell h1 (k := i) (by rw [bitL_length]; exact hli)
              have f1 := frozen_of_row wr w2.heap.size i _ 4 h1
              have s1 := bool_set h1 i (s.testBit i)
              rw [bitL_set] at s1
              have hb2 := hb1.setCell (p := ⟨w2.heap.size, i, none⟩) (Nat.le_refl _) (.bool (s.testBit i))
              have t1 := bit_odd hl.out
              have t1' := bit_odd' hl.out
              have hl2 := Lib.hid (bit_half' hl.out)
              have hl3 : l / 2 ≤ 64 := by omega
              generalize s.testBit i = b1 at *
              replace s1 := Lib.hid s1
              replace h1 := Lib.hid h1
              go_wp2
              go_roundw
              case rel => exact ⟨i + 1, l / 2, hli, hl2, hl3, num1 i, rfl, s1.out, hb2⟩
              case measure => exact meas1 hli
            · obtain rfl : n = i := by omega
              have hbw : Below w.heap.size w wr := hbel.trans (hb1.mono hbel.size)
              have hgr := (hb1.block w.heap.size hsz).trans hg.out
              have hcall := hmin.out w2.heap.size n w2.heap.size n _ _ wr (hrow.out.below hbw) h1 h1 (bitL_length _ _ _) (bitL_length _ _ _)
              rw [bitL_places] at hcall
              have hmn : (Mx.bitsAt n s).length ≤ n := bits_le n s
              have hml := mList_sq (A := A) (R := Mx.bitsAt n s) (C := Mx.bitsAt n s) rfl rfl
              have hsr : w.heap.size < wr.heap.size := Nat.lt_of_lt_of_le hsz hb1.size
              have hset := setL_step (n := n) A s (n - (Mx.bitsAt n s).length)
              have hodd := fun h => set_odd (n := n) (s := s) A h
              have heven := fun h => set_even (n := n) (s := s) A h
              have hpk : ∀ m, sqList m (pickM A (Mx.bitsAt n s) (Mx.bitsAt n s)) = sqList m (Mx.pick A (Mx.bitsAt n s)) := fun _ => rfl
              rw [hpk] at hml
              unfold MinorPost at hcall
              rw [hml] at hcall
              generalize (Mx.bitsAt n s).length = m at *
              generalize Mx.pick A (Mx.bitsAt n s) = B at *
              have hBl := sqList_length m B
              have hm6 : m ≤ 6 := by omega
              obtain ⟨d, hd⟩ : ∃ d, n = m + d := ⟨n - m, by omega⟩
              have hnm : n - m = d := by omega
              rw [hnm] at hset
              replace hset := fun c hc => hset c hd hc
              have hd2 : (n : Int) - (m : Int) = (d : Int) := by omega
              have hd3 : d < n + 1 := by omega
              have hd4 : (d : Int) < (n : Int) + 1 := by omega
              replace hcall := Lib.hid hcall
              replace hset := Lib.hid hset
              replace hodd := Lib.hid hodd
              replace heven := Lib.hid heven
              replace hml := Lib.hid hml
              replace hBl := Lib.hid hBl
              replace hgr := Lib.hid hgr
              replace hd := Lib.hid hd
              replace hnm := Lib.hid hnm
              clear h1 hg hpk
              skip
              go_wp2_with fail
              refine hcall.out.mono ?_
              rintro e w4 ⟨am, cm, rfl, hrm, hbm⟩
              rw [hBl.out]
              have hcd := hdet.out m hm6 B am cm w4 hrm
              have hbel4 := below_trans hbw hbm
              have hg4 := (hbm.block w.heap.size hsr).trans hgr.out
              have hs4 := Nat.lt_of_lt_of_le hsr hbm.size
              replace hcd := Lib.hid hcd
              replace hg4 := Lib.hid hg4
              clear hrm hgr hbw hbm hcall hsr
              go_wp2_with fail
              refine hcd.out.mono ?_
              rintro e w5 ⟨rfl, hb5⟩
              have hbel5 := below_trans hbel4 hb5
              have hg5 := (hb5.block w.heap.size hs4).trans hg4.out
              have hs5 := Nat.lt_of_lt_of_le hs4 hb5.size
              clear hg4 hbel4 hb5 hcd hs4
              have c5 := cell_of_row w5 w.heap.size d _ 3 (0, 0) hg5
              have f5 := frozen_of_row w5 w.heap.size d _ 3 hg5
              have c6 : w5.cell? ⟨w.heap.size, d, none⟩ = some (.int .i64 ((setL n A s).getD d 0)) := block_cell hg5 (by rw [setL_length]; exact hd3)
              clear c5
              have hgv : (setL n A s).getD d 0 = wrap64 (Mx.S s (setT n A (n - d))) := setL_get A s hd3
              rw [hgv] at c6
              have hset2 := fun v (hv : (setL n A s).set d v = setL n A (s + 1)) => (block_set hg5 d v).trans (by rw [hv] : some (Obj.cells (cellsOf ((setL n A s).set d v)) 3 (0, 0)) = some (.cells (cellsOf (setL n A (s + 1))) 3 (0, 0)))
              have hbs := fun v => hbel5.setCell (p := ⟨w.heap.size, d, none⟩) (Nat.le_refl _) (.int .i64 v)
              have e1 := odd_num m
              have e2 := odd_num' m
              generalize wrap64 (Mx.S s (setT n A (n - d))) = old at *
              have hs1 : s + 1 ≤ P := hls
              replace hgv := Lib.hid hgv
              replace hg5 := Lib.hid hg5
              rcases Nat.mod_two_eq_zero_or_one m with hp | hp
              · have hv := hset2 _ (hset.out _ (heven.out hp))
                rw [decide_eq_false (by omega)] at e1 e2
                generalize wrap64 (Mx.det m B) = v at *
                replace hv := Lib.hid hv
                replace hset2 := Lib.hid hset2
                replace heven := Lib.hid heven
                replace hodd := Lib.hid hodd
                replace hset := Lib.hid hset
                go_wp2
                go_roundw
                case rel => exact ⟨s + 1, hs1, num1 s, hv.out, hbs _, by rw [World.size_setCell]; exact hs5⟩
                case measure => exact meas1 hls
              · have hv := hset2 _ (hset.out _ (hodd.out hp))
                rw [decide_eq_true hp] at e1 e2
                generalize wrap64 (Mx.det m B) = v at *
                replace hv := Lib.hid hv
                replace hset2 := Lib.hid hset2
                replace heven := Lib.hid heven
                replace hodd := Lib.hid hodd
                replace hset := Lib.hid hset
                go_wp2
                go_roundw
                case rel => exact ⟨s + 1, hs1, num1 s, hv.out, hbs _, by rw [World.size_setCell]; exact hs5⟩
                case measure => exact meas1 hls
        · obtain rfl : s = P := by omega
          rw [hP.out, setL_end] at hg
          replace hg := Lib.hid hg
          go_wp2
          go_ret
          exact ⟨_, rfl, hg.out, Nat.le_refl _, hbel⟩
end Go.Proofs.YtcenhemlgapkeaaDoor
