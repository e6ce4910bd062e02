/- The document's Where and Coords: the place of indices, and the indices of a place, counted up to it. Condition: rows that lie as lists of ints; that there are such cells. -/
import Derived.Test.YtcenhemlgapkeaaDoorBdX
import Derived.Test.YtcenhemlgapkeaaDoorOwnAt
import Derived.Test.YtcenhemlgapkeaaDoorBdD
import Derived.Test.YtcenhemlgapkeaaDoorBdA
import Derived.Test.YtcenhemlgapkeaaDoorBdS
import Derived.Deep.QuietTactic
import Derived.BigQuiet
namespace Go.Proofs.YtcenhemlgapkeaaDoor
open Go.RowKit

set_option maxHeartbeats 1000000 in
theorem where_any (a b : Option Addr) (s t : List Int) (m n c d : Nat) (q : Int) (w : World) (hs : Row w a s) (ht : Row w b t) (hin : M.InR s t) (hq : M.count s = .ok q) (em : m = s.length) (en : n = t.length) :
    Calls Tryd.prog 64 #[.slice a m c, .slice b n d] w fun e w' => e = .returned (.int .i64 (M.placeN 0 s t)) ∧ w = w' := by
  subst em
  subst en
  have h6 := (M.count_ok hq).1
  have hpr : M.prod s ≤ 4096 := by have h1 := (M.count_ok hq).2.2.1; have h2 := (M.count_ok hq).2.2.2.2; omega
  have hl := Lib.hid hin.length
  replace hpr := Lib.hid hpr
  clear hq
  go_enter Tryd.func64, Tryd.ntmps64
  go_wp2
  go_loop [5, 6, 7] (fun p q v => ∃ (k : Nat) (i x y : Int), k ≤ s.length ∧ i + 1 = k ∧ v = .int .i64 i ∧ p = .int .i64 x ∧ q = .int .i64 y ∧ x = M.placeN 0 (s.drop k) (t.drop k) ∧ y = M.prod (s.drop k)) (fun _ _ v => (intOf v + 1).toNat)
  case atStart =>
    refine ⟨s.length, _, _, _, Nat.le_refl _, ?_, rfl, rfl, rfl, ?_, ?_⟩
    · omega
    · rw [List.drop_eq_nil_of_le (Nat.le_refl _)]; rfl
    · rw [List.drop_eq_nil_of_le (Nat.le_refl _)]; rfl
  case round =>
    obtain ⟨k, i, x, y, hk, hi, rfl, rfl, rfl, hx, hy⟩ := hrel
    by_cases h0 : i < 0
    · obtain rfl : k = 0 := by omega
      replace hx := Lib.hid hx
      replace hy := Lib.hid hy
      clear hk hi
      go_wp2
      go_ret
      exact ⟨ret_int (by rw [hx.out]; rfl), rfl⟩
    · obtain ⟨j, rfl⟩ : ∃ j : Nat, i = j := ⟨i.toNat, by omega⟩
      obtain rfl : k = j + 1 := by omega
      have hlt : j < s.length := by omega
      have hlt' : j < t.length := by have := hl.out; omega
      obtain ⟨b1, o1, rfl, hc⟩ := hs j hlt
      obtain ⟨b2, o2, rfl, hc2⟩ := ht j hlt'
      obtain ⟨e1, e2⟩ := M.placeN_drop hin hlt
      have e3 : t.getD j 0 = t[j] := by simp [hlt']
      have e4 : s.getD j 0 = s[j] := by simp [hlt]
      rw [e3, ← hx, ← hy] at e1
      rw [e4, ← hy] at e2
      have bd := M.placeN_bound (hin.drop j)
      have bd2 := M.placeN_bound (hin.drop (j + 1))
      have pd := M.prod_drop_le hin.pos j
      have pd2 := M.prod_drop_le hin.pos (j + 1)
      have hp := hpr.out
      rw [← hx, ← hy] at bd2
      rw [← hy] at pd2
      obtain ⟨u, hu⟩ : ∃ u, u = t[j] * y := ⟨_, rfl⟩
      obtain ⟨z, hz⟩ : ∃ z, z = y * s[j] := ⟨_, rfl⟩
      have hz2 : z = M.prod (s.drop j) := by rw [hz, e2, Int.mul_comm]
      rw [← hu] at e1
      have u0 : 0 ≤ u := by rw [hu]; exact Int.mul_nonneg (by have := (hin.get hlt).1; rw [e3] at this; exact this) (by omega)
      have u1 : u ≤ 4096 := by omega
      have z0 : 0 ≤ z := by omega
      have z1 : z ≤ 4096 := by omega
      have w1 : wrap64 (t[j] * y) = u := by rw [← hu]; exact IntWalk.wrap64_in _ (by omega)
      have w2 : wrap64 (y * s[j]) = z := by rw [← hz]; exact IntWalk.wrap64_in _ (by omega)
      have x0 : 0 ≤ x := bd2.1
      have x1 : x ≤ 4096 := by omega
      replace e1 := Lib.hid e1
      replace hz2 := Lib.hid hz2
      clear e2 e3 e4 hx hy hu hz bd bd2 pd pd2 hp hi
      go_wp2
      go_round
      case rel => exact ⟨j, _, _, _, by omega, by omega, rfl, rfl, rfl, by rw [e1.out], by rw [w2]; exact hz2.out⟩
      case measure => simp [intOf]

set_option maxHeartbeats 2000000 in
theorem coordsB_any (a : Option Addr) (s : List Int) (m c : Nat) (q p : Int) (w : World) (hs : Row w a s) (hq : M.count s = .ok q) (h0 : 0 ≤ p) (hp : p < q) (em : m = s.length) :
    Calls Tryd.prog 63 #[.slice a m c, .int .i64 p] w fun e w' => e = .returned (.slice (some ⟨w.heap.size, 0, none⟩) s.length s.length) ∧ Row w' (some ⟨w.heap.size, 0, none⟩) (M.coords s p).1 ∧ Below w.heap.size w w' := by
  subst em
  have h6 := (M.count_ok hq).1
  have hpos := M.count_pos hq h0 hp
  have hpq : p < M.prod s ∧ M.prod s ≤ 4096 := by have h1 := (M.count_ok hq).2.2.1; have h2 := (M.count_ok hq).2.2.2.2; omega
  obtain ⟨P, rfl⟩ : ∃ P : Nat, p = P := ⟨p.toNat, by omega⟩
  have hz := M.placeN_zeros hpos
  have hmk := run_make_ints s.length (by omega)
  have hP : P ≤ 4096 := by omega
  replace hpos := Lib.hid hpos
  replace hpq := Lib.hid hpq
  replace hz := Lib.hid hz
  clear hq hp h0
  go_enter Tryd.func63, Tryd.ntmps63
  go_wp2
  go_loopw [6] (fun i wr => ∃ (j : Nat) (t : List Int), j ≤ P ∧ i = .int .i64 j ∧ M.InR s t ∧ M.placeN 0 s t = j ∧ wr.heap[w.heap.size]? = some (.cells (cellsOf t) 3 (0, 0)) ∧ Below w.heap.size w wr) (fun i _ => P - (intOf i).toNat)
  case atStart =>
    refine ⟨0, List.replicate s.length 0, Nat.zero_le _, rfl, hz.out.1, hz.out.2, ?_, (Below.refl _ w).alloc (Nat.le_refl _) _⟩
    rw [heap_alloc_new w (.cells (zeroCells s.length) 3)]
    simp [zeroCells, cellsOf]
  case round =>
    obtain ⟨j, t, hj, rfl, hin, hpl, hh, hbel⟩ := hrel
    clear hmk hz
    have hl := hin.length
    by_cases hlt : j < P
    · replace hpl := Lib.hid hpl
      replace hl := Lib.hid hl
      replace hin := Lib.hid hin
      replace hh := Lib.hid hh
      obtain ⟨wo, hwo⟩ : ∃ wo : World, wo = wr := ⟨_, rfl⟩
      subst hwo
      go_wp2
      go_loopw [7] (fun v wr => ∃ (k : Nat) (i : Int), k ≤ s.length ∧ i + 1 = k ∧ v = .int .i64 i ∧ M.AllMax (s.drop k) (t.drop k) ∧ wr.heap[w.heap.size]? = some (.cells (cellsOf (M.cut t k)) 3 (0, 0)) ∧ Below w.heap.size w wr) (fun v _ => (intOf v + 1).toNat)
      case atStart =>
        refine ⟨s.length, _, Nat.le_refl _, by omega, rfl, ?_, ?_, hbel⟩
        · rw [List.drop_eq_nil_of_le (Nat.le_refl _)]; intro i hi; simp at hi
        · rw [hh.out, ← hl.out, M.cut_all]
      case round =>
        obtain ⟨k, i, hk, hi, rfl, hmx, hhk, hbk⟩ := hrel
        clear hbel hh
        replace hmx := Lib.hid hmx
        by_cases hneg : i < 0
        · exfalso
          obtain rfl : k = 0 := by omega
          have h1 := M.allMax_end hin.out hmx.out
          have h2 := hpl.out
          have h3 := hpq.out
          omega
        · obtain ⟨x, rfl⟩ : ∃ x : Nat, i = x := ⟨i.toNat, by omega⟩
          obtain rfl : k = x + 1 := by omega
          have hlx : x < s.length := by omega
          have hlx' : x < t.length := by have := hl.out; omega
          obtain ⟨b1, o1, rfl, hc⟩ := hs.below hbk x hlx
          have hcl : (M.cut t (x + 1)).length = t.length := M.cut_length _ _
          have hct := block_cell hhk (k := x) (by rw [hcl]; exact hlx')
          rw [M.cut_get hlx'] at hct
          have e3 : t.getD x 0 = t[x] := by simp [hlx']
          have e4 : s.getD x 0 = s[x] := by simp [hlx]
          have hfz := frozen_of_row wr w.heap.size x _ 3 hhk
          have hg := hin.out.get hlx
          have hs1 : s[x] ≤ 4096 := by
            have := M.prod_drop_le hpos.out x
            have h2 := M.prod_drop_le hpos.out (x + 1)
            have h3 := (M.placeN_drop hin.out hlx).2
            have h4 := hpq.out.2
            rw [e4] at h3
            have h5 : s[x] * 1 ≤ s[x] * M.prod (s.drop (x + 1)) := Int.mul_le_mul_of_nonneg_left h2.1 (by rw [e3, e4] at hg; omega)
            omega
          rw [e3] at hct
          rw [e3, e4] at hg
          have g1 : 0 ≤ t[x] := hg.1
          have g2 : t[x] < s[x] := hg.2
          have hge : decide ((0 : Int) ≤ (x : Int)) = true := decide_eq_true (by omega)
          replace hcl := Lib.hid hcl
          clear hg hi
          cases hd : (t[x] == s[x] - 1) with
          | true =>
            have hmx2 := Lib.hid (M.allMax_step hlx hl.out hmx.out (by rw [e3, e4]; simpa using hd))
            have hset := Lib.hid (block_set hhk x 0)
            replace hhk := Lib.hid hhk
            replace e3 := Lib.hid e3
            replace e4 := Lib.hid e4
            go_wp2
            go_quiet (fail)
            go_wp2
            go_roundw
            case rel =>
              refine ⟨x, _, by omega, by omega, rfl, hmx2.out, ?_, (below_drewN hbk _).setCell (by simp) _⟩
              have h1 := hset.out
              rw [M.cut_step hlx'] at h1
              exact h1
            case measure => simp [intOf]
          | false =>
            obtain ⟨n1, n2⟩ := M.odo hin.out hlx hmx.out (by rw [e3, e4]; simpa using hd)
            rw [e3] at n1 n2
            have hset := Lib.hid (block_set hhk x (t[x] + 1))
            replace hhk := Lib.hid hhk
            replace e3 := Lib.hid e3
            replace e4 := Lib.hid e4
            replace n1 := Lib.hid n1
            replace n2 := Lib.hid n2
            go_wp2
            go_quiet (fail)
            go_wp2
            go_roundw
            case rel => exact ⟨j + 1, _, by omega, by go_num, n1.out, by rw [n2.out, hpl.out]; rfl, hset.out, (below_drewN hbk _).setCell (by simp) _⟩
            case measure => simp [intOf]; omega
    · obtain rfl : j = P := by omega
      have hco := M.coords_place hin
      rw [hpl] at hco
      have hown := own_of_block hh (B := w.heap.size) (Nat.le_refl _) hl.symm (by unfold maxLen; omega)
      replace hco := Lib.hid hco
      replace hh := Lib.hid hh
      replace hpl := Lib.hid hpl
      replace hl := Lib.hid hl
      go_wp2
      go_ret
      exact ⟨rfl, by rw [hco.out]; exact hown.row, hbel⟩

end Go.Proofs.YtcenhemlgapkeaaDoor
