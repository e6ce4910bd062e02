/- The document's Distances: relaxation, n rounds of it. Condition: a matrix of 0 and 1 of at most 24 rows, in a row of ints; a thing. -/
import Derived.Test.YtiebknfmmanbiaaDoorRefClosed
import Derived.Test.YtiebknfmmanbiaaDoorWkFar
import Derived.Deep.QuietTactic
import Derived.BigQuiet
namespace Go.Proofs.YtiebknfmmanbiaaDoor
open Go.RowKit

/-- What is known of the distances told so far, at the cell i, j of the round t. -/
structure Dst (n : Nat) (F : Nat → Nat → Bool) (o t i j : Nat) (D : List Int) : Prop where
  len : D.length = n
  low : ∀ b, b < n → D.getD b 0 = -1 ∨ (Re.lev n F o b < n ∧ (Re.lev n F o b : Int) ≤ D.getD b 0)
  up : ∀ b, b < n → D.getD b 0 ≤ ((t * 600 + i * 24 + j : Nat) : Int)
  pr : ∀ b, b < n → Re.lev n F o b ≤ t → Re.lev n F o b < n → D.getD b 0 = (Re.lev n F o b : Int)
  wk : ∀ a b, (a < i ∨ (a = i ∧ b < j)) → a < n → b < n → F a b = true → Re.lev n F o a ≤ t → Re.lev n F o a < n → 0 ≤ D.getD b 0 ∧ D.getD b 0 ≤ (Re.lev n F o a : Int) + 1

theorem getD_setI {D : List Int} {k : Nat} (hk : k < D.length) (v : Int) (i : Nat) : (D.set k v).getD i 0 = if i = k then v else D.getD i 0 := by
  rw [List.getD_eq_getElem?_getD, List.getElem?_set]
  by_cases e : k = i
  · subst e; rw [if_pos rfl, if_pos rfl, if_pos hk]; rfl
  · rw [if_neg e, if_neg (fun h => e h.symm), List.getD_eq_getElem?_getD]

theorem dst_start {n : Nat} {F : Nat → Nat → Bool} {o : Nat} (ho : o < n) : Dst n F o 0 0 0 ((negUp n n).set o 0) := by
  have hl : o < (negUp n n).length := by rw [negUp_length]; exact ho
  have hg : ∀ b, b < n → ((negUp n n).set o 0).getD b 0 = if b = o then 0 else -1 := fun b hb => by
    rw [getD_setI hl]
    by_cases e : b = o
    · rw [if_pos e, if_pos e]
    · rw [if_neg e, if_neg e, negUp_all, List.getD_eq_getElem?_getD]; simp [hb]
  refine ⟨by simp [negUp_length], fun b hb => ?_, fun b hb => ?_, fun b hb h1 _ => ?_, fun a b h _ _ => by omega⟩
  · rw [hg b hb]
    by_cases e : b = o
    · rw [if_pos e]
      have := (Re.lev_zero (E := F) ho hb).2 e
      exact .inr (by omega)
    · rw [if_neg e]; exact .inl rfl
  · rw [hg b hb]; split <;> omega
  · have h0 : Re.lev n F o b = 0 := by omega
    rw [hg b hb, if_pos ((Re.lev_zero ho hb).1 h0), h0]; rfl
theorem Dst.stay {n : Nat} {F : Nat → Nat → Bool} {o t i j : Nat} {D : List Int} (h : Dst n F o t i j D) (hi : i < n) (hj : j < n)
    (hc : F i j = false ∨ D.getD i 0 < 0 ∨ (0 ≤ D.getD j 0 ∧ D.getD j 0 ≤ D.getD i 0 + 1)) : Dst n F o t i (j + 1) D := by
  refine ⟨h.len, h.low, fun b hb => by have := h.up b hb; omega, h.pr, fun a b hab ha hb hF hl hl2 => ?_⟩
  by_cases e : a = i ∧ b = j
  · obtain ⟨rfl, rfl⟩ := e
    have hp := h.pr a ha hl hl2
    rcases hc with hc | hc | hc
    · rw [hF] at hc; cases hc
    · omega
    · exact ⟨hc.1, by omega⟩
  · exact h.wk a b (by omega) ha hb hF hl hl2
theorem Dst.move {n : Nat} {F : Nat → Nat → Bool} {o t i j : Nat} {D : List Int} (ho : o < n) (h : Dst n F o t i j D) (hi : i < n) (hj : j < n) (hF : F i j = true) (h0 : 0 ≤ D.getD i 0)
    (hc : D.getD j 0 < 0 ∨ D.getD i 0 + 1 < D.getD j 0) : Dst n F o t i (j + 1) (D.set j (D.getD i 0 + 1)) := by
  have hl : j < D.length := by rw [h.len]; exact hj
  have hli : Re.lev n F o i < n ∧ (Re.lev n F o i : Int) ≤ D.getD i 0 := (h.low i hi).resolve_left (by omega)
  have hls := Re.lev_step (E := F) ho hi hj hli.1 hF
  have hg := getD_setI hl (D.getD i 0 + 1)
  refine ⟨by rw [List.length_set]; exact h.len, fun b hb => ?_, fun b hb => ?_, fun b hb h1 h2 => ?_, fun a b hab ha hb hF2 hl1 hl2 => ?_⟩
  · rw [hg b]
    by_cases e : b = j
    · subst e; rw [if_pos rfl]; exact .inr ⟨hls.2, by omega⟩
    · rw [if_neg e]; exact h.low b hb
  · rw [hg b]
    by_cases e : b = j
    · rw [if_pos e]; have := h.up i hi; omega
    · rw [if_neg e]; have := h.up b hb; omega
  · have hp := h.pr b hb h1 h2
    rw [hg b]
    by_cases e : b = j
    · subst e; rw [if_pos rfl]; omega
    · rw [if_neg e]; exact hp
  · rw [hg b]
    by_cases e : b = j
    · subst e
      rw [if_pos rfl]
      by_cases ea : a = i
      · subst ea
        have hp := h.pr a ha hl1 hl2
        omega
      · have := h.wk a b (by omega) ha hb hF2 hl1 hl2
        omega
    · rw [if_neg e]; exact h.wk a b (by omega) ha hb hF2 hl1 hl2
set_option maxRecDepth 20000 in
theorem Dst.row {n : Nat} {F : Nat → Nat → Bool} {o t i : Nat} {D : List Int} (hn : n ≤ 24) (h : Dst n F o t i n D) : Dst n F o t (i + 1) 0 D :=
  ⟨h.len, h.low, fun b hb => by have := h.up b hb; omega, h.pr, fun a b hab ha hb => h.wk a b (by omega) ha hb⟩
set_option maxRecDepth 20000 in
theorem Dst.round {n : Nat} {F : Nat → Nat → Bool} {o t : Nat} {D : List Int} (ho : o < n) (hn : n ≤ 24) (h : Dst n F o t n 0 D) : Dst n F o (t + 1) 0 0 D := by
  refine ⟨h.len, h.low, fun b hb => by have := h.up b hb; omega, fun b hb h1 h2 => ?_, fun a b h => by omega⟩
  by_cases e : Re.lev n F o b ≤ t
  · exact h.pr b hb e h2
  · obtain ⟨a, ha, h3, h4⟩ := Re.lev_pred (E := F) ho hb h2 (by omega)
    have := h.wk a b (.inl ha) ha hb h3 (by omega) (by omega)
    rcases h.low b hb with h5 | h5 <;> omega
theorem Dst.done {n : Nat} {F : Nat → Nat → Bool} {o : Nat} {D : List Int} (h : Dst n F o n 0 0 D) : D = farUp n F o n := by
  apply List.ext_getElem
  · rw [h.len, farUp_length]
  · intro b h1 h2
    have hb : b < n := by rw [← h.len]; exact h1
    have e1 : D[b] = D.getD b 0 := by rw [List.getD_eq_getElem?_getD, List.getElem?_eq_getElem h1]; rfl
    have e2 : (farUp n F o n)[b] = (farUp n F o n).getD b 0 := by rw [List.getD_eq_getElem?_getD, List.getElem?_eq_getElem h2]; rfl
    rw [e1, e2, farUp_get hb]
    by_cases hl : Re.lev n F o b < n
    · rw [if_pos ⟨hl, hl⟩]; exact h.pr b hb (by omega) hl
    · rw [if_neg fun k => hl k.1]
      rcases h.low b hb with h5 | h5
      · exact h5
      · exact absurd h5.1 hl

set_option maxRecDepth 20000 in
set_option maxHeartbeats 16000000 in
theorem refDist_any (n O : Nat) (F : Nat → Nat → Bool) (b : Option Addr) (d : List Int) (m z : Nat) (w : World) (hd : Row w b d) (hn : n ≤ 24) (hO : O < n) (hl : d.length = n * n) (hF : ∀ i j, i < n → j < n → (d.getD (i * n + j) 0 == 1) = F i j) (em : m = d.length) :
    Calls Tryd.prog 40 #[.int .i64 (n : Int), .slice b m z, .int .i64 (O : Int)] w (BlockPost n (farUp n F O n) w) := by
  have hnn : n * n ≤ 24 * 24 := Nat.mul_le_mul hn hn
  obtain ⟨N, hNN⟩ : ∃ N, N = n * n := ⟨_, rfl⟩
  rw [← hNN] at hnn
  have N1 : N ≤ 576 := hnn
  have hmk := fun W => run_make_ints n (by omega) W
  have hdl : d.length = N := by rw [hl, ← hNN]
  subst em
  rw [hdl]
  clear hnn hl
  replace hF := Lib.hid hF
  replace hNN := Lib.hid hNN
  replace hdl := Lib.hid hdl
  replace hd := Lib.hid hd
  go_enter Tryd.func40, Tryd.ntmps40
  go_wp2
  have hb0 := push (start w) (.cells (zeroCells n) 3)
  have h0 : (w.alloc (.cells (zeroCells n) 3)).heap[w.heap.size]? = some (.cells (cellsOf (negUp n 0)) 3 (0, 0)) := by rw [heap_alloc_new, room_cells, negUp_zero]
  generalize hwa : w.alloc (.cells (zeroCells n) 3) = wa at *
  replace hwa := Lib.hid hwa
  obtain ⟨g, hg⟩ : ∃ g, g = w.heap.size := ⟨_, rfl⟩
  rw [← hg] at h0 ⊢
  have hwg : w.heap.size ≤ g := Nat.le_of_eq hg.symm
  replace hg := Lib.hid hg
  replace h0 := Lib.hid h0
  replace hb0 := Lib.hid hb0
  replace hwg := Lib.hid hwg
  clear hmk
  go_loopw [8] (fun v wr => ∃ i : Nat, i ≤ n ∧ v = .int .i64 i ∧ wr.heap[g]? = some (.cells (cellsOf (negUp n i)) 3 (0, 0)) ∧ Below w.heap.size w wr) (fun v _ => n - (intOf v).toNat)
  case atStart => exact ⟨0, Nat.zero_le _, rfl, h0.out, hb0.out⟩
  case round =>
    clear h0 hb0 hwa
    obtain ⟨i, hi, rfl, hG, hbel⟩ := hrel
    by_cases hli : i < n
    · have ci := block_cell hG (k := i) (by rw [negUp_length]; exact hli)
      have fi := frozen_of_row wr g i _ 3 hG
      have hG1 := block_set hG i (-1)
      rw [negUp_set] at hG1
      have hb1 := hbel.setCell (p := ⟨g, i, none⟩) hwg.out (.int .i64 (-1))
      replace hG := Lib.hid hG
      replace hG1 := Lib.hid hG1
      replace hb1 := Lib.hid hb1
      go_wp2
      go_roundw
      case rel => exact ⟨i + 1, hli, num1 i, hG1.out, hb1.out⟩
      case measure => exact meas1 hli
    · obtain rfl : i = n := by omega
      have ci := block_cell hG (k := O) (by rw [negUp_length]; exact hO)
      have fi := frozen_of_row wr g O _ 3 hG
      have hG1 := block_set hG O 0
      have hs := Lib.hid (dst_start (F := F) hO)
      have hb1 := hbel.setCell (p := ⟨g, O, none⟩) hwg.out (.int .i64 0)
      have o1 : (O : Int) < (i : Int) := by omega
      replace hG := Lib.hid hG
      replace hG1 := Lib.hid hG1
      replace hb1 := Lib.hid hb1
      go_wp2
      clear ci fi
      go_loopw [9] (fun v wr => ∃ (t : Nat) (D : List Int), t ≤ i ∧ v = .int .i64 t ∧ Dst i F O t 0 0 D ∧ wr.heap[g]? = some (.cells (cellsOf D) 3 (0, 0)) ∧ Below w.heap.size w wr) (fun v _ => i - (intOf v).toNat)
      case atStart => exact ⟨0, _, Nat.zero_le _, rfl, hs.out, hG1.out, hb1.out⟩
      case round =>
        clear hs hG hG1 hb1 hbel
        obtain ⟨t, D, ht, rfl, hS, hG, hbel⟩ := hrel
        by_cases hlt : t < i
        · replace hS := Lib.hid hS
          replace hG := Lib.hid hG
          go_wp2
          go_loopw [10] (fun v wr => ∃ (r : Nat) (D : List Int), r ≤ i ∧ v = .int .i64 r ∧ Dst i F O t r 0 D ∧ wr.heap[g]? = some (.cells (cellsOf D) 3 (0, 0)) ∧ Below w.heap.size w wr) (fun v _ => i - (intOf v).toNat)
          case atStart => exact ⟨0, D, Nat.zero_le _, rfl, hS.out, hG.out, hbel⟩
          case round =>
            clear hS hG hbel
            obtain ⟨r, D, hr, rfl, hS, hG, hbel⟩ := hrel
            by_cases hlr : r < i
            · replace hS := Lib.hid hS
              replace hG := Lib.hid hG
              go_wp2
              go_loopw [11] (fun v wr => ∃ (c : Nat) (D : List Int), c ≤ i ∧ v = .int .i64 c ∧ Dst i F O t r c D ∧ wr.heap[g]? = some (.cells (cellsOf D) 3 (0, 0)) ∧ Below w.heap.size w wr) (fun v _ => i - (intOf v).toNat)
              case atStart => exact ⟨0, D, Nat.zero_le _, rfl, hS.out, hG.out, hbel⟩
              case round =>
                clear hS hG hbel
                obtain ⟨c, D, hc, rfl, hS, hG, hbel⟩ := hrel
                by_cases hlc : c < i
                · have cr := block_cell hG (k := r) (by rw [hS.len]; exact hlr)
                  have cc := block_cell hG (k := c) (by rw [hS.len]; exact hlc)
                  have fc := frozen_of_row wr g c _ 3 hG
                  have u1 := hS.up r hlr
                  have l1 := hS.low r hlr
                  have stay := hS.stay hlr hlc
                  have move := hS.move hO hlr hlc
                  have q1 := index_lt hlr hlc
                  have hFq := hF.out r c hlr hlc
                  obtain ⟨bd, od, rfl, c3⟩ := (hd.out.below hbel) (r * i + c) (by rw [hdl.out, hNN.out]; exact q1)
                  have hset := block_set hG c (D.getD r 0 + 1)
                  have e1 : ((r : Int) * (i : Int)) = ((r * i : Nat) : Int) := by simp
                  rw [← hNN.out] at q1
                  obtain ⟨p, hp⟩ : ∃ p, p = r * i := ⟨_, rfl⟩
                  rw [← hp] at q1 e1 c3 hFq
                  have i1 : (p : Int) + (c : Int) < (N : Int) := by clear e1; omega
                  have pw : -9223372036854775808 ≤ (p : Int) ∧ (p : Int) ≤ 9223372036854775807 := by clear e1; omega
                  have w1' : ∀ m : Nat, m = i → wrap64 ((r : Int) * (m : Int)) = (p : Int) := by rintro m rfl; rw [e1]; exact IntWalk.wrap64_in _ pw
                  have p5 : p ≤ 576 := by clear e1; omega
                  clear e1 pw hp q1
                  generalize d.getD (p + c) 0 = dx at *
                  obtain ⟨y, hy⟩ : ∃ y, y = D.getD r 0 := ⟨_, rfl⟩
                  obtain ⟨x, hx⟩ : ∃ x, x = D.getD c 0 := ⟨_, rfl⟩
                  simp only [← hy, ← hx] at cr cc u1 l1 stay move hset
                  have wy : wrap64 (y + 1) = y + 1 := IntWalk.wrap64_in _ (by omega)
                  have hbd : y < 9223372036854775807 ∧ -2 ≤ y := by omega
                  replace hG := Lib.hid hG
                  replace hS := Lib.hid hS
                  replace hset := Lib.hid hset
                  replace hy := Lib.hid hy
                  replace hx := Lib.hid hx
                  clear u1 l1
                  by_cases hgo : F r c = true ∧ 0 ≤ y ∧ (x < 0 ∨ y + 1 < x)
                  · obtain ⟨g1, g2, g3⟩ := hgo
                    have hm := Lib.hid (move g1 g2 g3)
                    rw [g1] at hFq
                    have f2 : decide (y ≥ 0) = true := decide_eq_true g2
                    replace g1 := Lib.hid g1
                    clear stay move
                    by_cases hx0 : x < 0
                    · have f3 : decide (x < 0) = true := decide_eq_true hx0
                      clear g3
                      go_wp2
                      go_quiet (fail)
                      go_wp2
                      go_roundw
                      case rel => exact ⟨c + 1, _, hlc, num1 c, hm.out, by exact hset.out, (below_drewN hbel _).setCell (p := ⟨g, c, none⟩) hwg.out _⟩
                      case measure => exact meas1 hlc
                    · have f3 : decide (x < 0) = false := decide_eq_false hx0
                      have f4 : decide (x > y + 1) = true := decide_eq_true (by omega)
                      clear g3
                      go_wp2
                      go_quiet (fail)
                      go_wp2
                      go_roundw
                      case rel => exact ⟨c + 1, _, hlc, num1 c, hm.out, by exact hset.out, (below_drewN hbel _).setCell (p := ⟨g, c, none⟩) hwg.out _⟩
                      case measure => exact meas1 hlc
                  · have hm := Lib.hid (stay (by
                      by_cases g1 : F r c = true
                      · by_cases g2 : 0 ≤ y
                        · refine .inr (.inr ?_)
                          have : ¬ (x < 0 ∨ y + 1 < x) := fun k => hgo ⟨g1, g2, k⟩
                          omega
                        · exact .inr (.inl (by omega))
                      · exact .inl (by simpa using g1)))
                    clear stay move
                    by_cases g1 : F r c = true
                    · rw [g1] at hFq
                      by_cases g2 : 0 ≤ y
                      · have f2 : decide (y ≥ 0) = true := decide_eq_true g2
                        have g3 : ¬ (x < 0 ∨ y + 1 < x) := fun k => hgo ⟨g1, g2, k⟩
                        have f3 : decide (x < 0) = false := decide_eq_false (by omega)
                        have f4 : decide (x > y + 1) = false := decide_eq_false (by omega)
                        replace hgo := Lib.hid hgo
                        replace g1 := Lib.hid g1
                        clear g3
                        go_wp2
                        go_quiet (fail)
                        go_wp2
                        go_roundw
                        case rel => exact ⟨c + 1, D, hlc, num1 c, hm.out, by exact hG.out, below_drewN hbel _⟩
                        case measure => exact meas1 hlc
                      · have f2 : decide (y ≥ 0) = false := decide_eq_false (by omega)
                        replace hgo := Lib.hid hgo
                        replace g1 := Lib.hid g1
                        go_wp2
                        go_quiet (fail)
                        go_wp2
                        go_roundw
                        case rel => exact ⟨c + 1, D, hlc, num1 c, hm.out, by exact hG.out, below_drewN hbel _⟩
                        case measure => exact meas1 hlc
                    · rw [show F r c = false by simpa using g1] at hFq
                      replace hgo := Lib.hid hgo
                      replace g1 := Lib.hid g1
                      go_wp2
                      go_quiet (fail)
                      go_wp2
                      go_roundw
                      case rel => exact ⟨c + 1, D, hlc, num1 c, hm.out, by exact hG.out, below_drewN hbel _⟩
                      case measure => exact meas1 hlc
                · obtain rfl : c = i := by omega
                  have hS' := Lib.hid (hS.row hn)
                  replace hG := Lib.hid hG
                  clear hS
                  go_wp2
                  go_roundw
                  case rel => exact ⟨r + 1, D, hlr, num1 r, hS'.out, hG.out, hbel⟩
                  case measure => exact meas1 hlr
            · obtain rfl : r = i := by omega
              have hS' := Lib.hid (hS.round hO hn)
              replace hG := Lib.hid hG
              clear hS
              go_wp2
              go_roundw
              case rel => exact ⟨t + 1, D, hlt, num1 t, hS'.out, hG.out, hbel⟩
              case measure => exact meas1 hlt
        · obtain rfl : t = i := by omega
          have hDn := hS.done
          rw [hDn] at hG
          replace hG := Lib.hid hG
          clear hS hDn
          go_wp2
          go_ret
          exact ⟨g, rfl, hG.out, hwg.out, hbel⟩
end Go.Proofs.YtiebknfmmanbiaaDoor
