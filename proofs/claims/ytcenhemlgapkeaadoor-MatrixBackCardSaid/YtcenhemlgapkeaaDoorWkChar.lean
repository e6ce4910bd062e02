/- The call square.characteristic: Berkowitz' numbers, the greatest power first. Condition: at most six rows. -/
import Derived.Test.YtcenhemlgapkeaaDoorBdA
import Derived.Test.YtcenhemlgapkeaaDoorCharPlain
import Derived.Test.YtcenhemlgapkeaaDoorSqAlloc
import Derived.Test.YtcenhemlgapkeaaDoorSqApp
import Derived.RegionTactic
import Derived.BigRegion
import Derived.Deep.QuietTactic
import Derived.BigQuiet
namespace Go.Proofs.YtcenhemlgapkeaaDoor
open Go.RowKit

/-- What square.characteristic leaves. -/
def CharPost (n : Nat) (A : Nat → Nat → Int) (w : World) (e : Ending) (w' : World) : Prop :=
  ∃ g, e = .returned (.slice (some ⟨g, 0, none⟩) (n + 1) (n + 1)) ∧ w.heap.size ≤ g ∧ w'.heap[g]? = some (.cells (rowCells (n + 1) (Mx.chi n A).co) 3 (0, 0)) ∧ Below w.heap.size w w'

set_option maxRecDepth 20000 in
set_option maxHeartbeats 16000000 in
theorem char_any (n : Nat) (A : Nat → Nat → Int) (w : World) (hn : n ≤ 6) :
    Calls Tryd.prog 54 #[.agg (sqCells n A)] w fun e w' => CharPost n A w e w' := by
  have Q0 := heap_alloc2_old w (.cells (sqCells n A) 73) (.cells #[.int .i64 1] 3)
  have P0 := heap_alloc2_new w (.cells (sqCells n A) 73) (.cells #[.int .i64 1] 3)
  have c0 := sq_cell0 Q0
  replace Q0 := Lib.hid Q0
  replace P0 := Lib.hid P0
  go_enter Tryd.func54, Tryd.ntmps54
  go_wp2
  go_loopw [3, 19] (fun pv v wr => ∃ k gp : Nat, k ≤ n ∧ v = .int .i64 k ∧ pv = .slice (some ⟨gp, 0, none⟩) (k + 1) (k + 1) ∧ w.heap.size < gp ∧ wr.heap[w.heap.size]? = some (.cells (sqCells n A) 73 (0, 0)) ∧
      wr.heap[gp]? = some (.cells (rowCells (k + 1) (Mx.chi k A).co) 3 (0, 0)) ∧ Below w.heap.size w wr) (fun _ v _ => n - (intOf v).toNat)
  case atStart =>
    exact ⟨0, w.heap.size + 1, Nat.zero_le _, rfl, rfl, Nat.lt_succ_self _, Q0.out, by rw [poly_zero]; exact P0.out, push (push (start w) _) _⟩
  case round =>
    obtain ⟨k, gp, hk, rfl, rfl, hgp, hq, hp, hbel⟩ := hrel
    clear c0 Q0 P0
    by_cases hlt : k < n
    case neg =>
      obtain rfl : k = n := by omega
      have c0 := sq_cell0 hq
      replace hq := Lib.hid hq
      replace hp := Lib.hid hp
      go_wp2
      go_ret
      exact ⟨gp, rfl, by omega, hp.out, hbel⟩
    have hB := hbel.size
    have hgs := lt_of_some hp
    have k6 : (k : Int) < 6 := by omega
    obtain ⟨wo, hwo⟩ : ∃ wo : World, wo = wr.alloc (.cells (roomCells k) 3) := ⟨_, rfl⟩
    have C0 := heap_alloc_new wr (.cells (roomCells k) 3)
    rw [room_row, ← colF_zero A k, colF_zero A k, ← room_row, ← hwo, room_row, ← colF_zero A k] at C0
    have Q1 := (heap_alloc_old wr (.cells (roomCells k) 3) (lt_of_some hq)).trans hq
    have P1 := (heap_alloc_old wr (.cells (roomCells k) 3) hgs).trans hp
    have B1 := hbel.alloc hB (.cells (roomCells k) 3)
    rw [← hwo] at B1 Q1 P1
    have S1 : wo.heap.size = wr.heap.size + 1 := by rw [hwo]; simp
    obtain ⟨gc, hgc⟩ : ∃ gc, gc = wr.heap.size := ⟨_, rfl⟩
    have hmk := run_make_room k k (Nat.le_refl _) (by omega) wr
    rw [← hwo] at hmk
    rw [← hgc] at hmk C0 S1
    have g1 : w.heap.size < gc := by omega
    have g2 : gp < gc := by omega
    clear hq hp hbel hB hgs
    replace hwo := Lib.hid hwo
    replace hgc := Lib.hid hgc
    replace C0 := Lib.hid C0
    replace Q1 := Lib.hid Q1
    replace P1 := Lib.hid P1
    go_wp2
    go_loopw [25] (fun v wr => ∃ i : Nat, i ≤ k ∧ v = .int .i64 i ∧ But gc wo wr ∧ wr.heap[gc]? = some (.cells (rowCells k (colF A k i)) 3 (0, 0)) ∧ Below w.heap.size w wr) (fun v _ => k - (intOf v).toNat)
    case atStart => exact ⟨0, Nat.zero_le _, rfl, But.refl _ _, C0.out, B1⟩
    case round =>
      clear hmk
      obtain ⟨i, hi, rfl, hbut, hc, hbel⟩ := hrel
      by_cases hli : i < k
      · have c1 := sq_cell (hbut.get Q1.out (by omega)) (i := i) (j := k) (by omega) (by omega)
        have c2 := row_cell hc hli
        have f2 := frozen_of_row wr gc i _ 3 hc
        have hset := row_set hc i (A i k)
        rw [colF_step] at hset
        have i6 : (i : Int) < 6 := by omega
        generalize wrap64 (A i k) = x1 at *
        generalize wrap64 (colF A k i i) = x2 at *
        replace hset := Lib.hid hset
        replace hc := Lib.hid hc
        replace hbut := Lib.hid hbut
        go_wp2
        go_roundw
        case rel => exact ⟨i + 1, by omega, by go_num, hbut.out.set _ _, hset.out, hbel.setCell (p := ⟨gc, i, none⟩) (by show w.heap.size ≤ gc; omega) _⟩
        case measure => simp [intOf]; omega
      obtain rfl : i = k := by omega
      rw [colF_end] at hc
      have hq := hbut.get Q1.out (by omega)
      have hp := hbut.get P1.out (by omega)
      have hB := hbel.size
      have hgs := lt_of_some hc
      have c1 := sq_cell hq (i := i) (j := i) (by omega) (by omega)
      obtain ⟨x1, hx1⟩ : ∃ x, x = wrap64 (A i i) := ⟨_, rfl⟩
      rw [← hx1] at c1
      obtain ⟨w2, hw2⟩ : ∃ w2 : World, w2 = wr.alloc (.cells #[.int .i64 1, .int .i64 (wrap64 (-x1))] 3) := ⟨_, rfl⟩
      have F2 := heap_alloc_new wr (.cells #[.int .i64 1, .int .i64 (wrap64 (-x1))] 3)
      have Q2 := (heap_alloc_old wr (.cells #[.int .i64 1, .int .i64 (wrap64 (-x1))] 3) (lt_of_some hq)).trans hq
      have P2 := (heap_alloc_old wr (.cells #[.int .i64 1, .int .i64 (wrap64 (-x1))] 3) (lt_of_some hp)).trans hp
      have C2 := (heap_alloc_old wr (.cells #[.int .i64 1, .int .i64 (wrap64 (-x1))] 3) hgs).trans hc
      have B2 := hbel.alloc hB (.cells #[.int .i64 1, .int .i64 (wrap64 (-x1))] 3)
      rw [← hw2] at F2 Q2 P2 C2 B2
      have O2 := own_lit w2 w.heap.size _ _ (fstL i A 2) 2 hB F2 (by rw [fstL_two, ← hx1]; rfl) (by rw [fstL_length]) (by decide)
      have s2 : w.heap.size < wr.heap.size := by omega
      have s3 : gp < wr.heap.size := by omega
      clear hq hp hc hbel hbut Q1 P1 B1 S1 F2
      replace hw2 := Lib.hid hw2
      replace hx1 := Lib.hid hx1
      replace O2 := Lib.hid O2
      replace Q2 := Lib.hid Q2
      replace P2 := Lib.hid P2
      replace C2 := Lib.hid C2
      replace C0 := Lib.hid C0
      go_wp2
      go_loopw [5, 7, 47] (fun cv fv v wr => ∃ t gc gf cap : Nat, t ≤ i ∧ v = .int .i64 t ∧ cv = .slice (some ⟨gc, 0, none⟩) i i ∧ fv = .slice (some ⟨gf, 0, none⟩) (t + 2) cap ∧ w.heap.size < gc ∧ w.heap.size < gf ∧ gp ≠ gc ∧ gp ≠ gf ∧ gc ≠ gf ∧
          wr.heap[w.heap.size]? = some (.cells (sqCells n A) 73 (0, 0)) ∧ wr.heap[gp]? = some (.cells (rowCells (i + 1) (Mx.chi i A).co) 3 (0, 0)) ∧ wr.heap[gc]? = some (.cells (rowCells i (Mx.bc i A t)) 3 (0, 0)) ∧
          Own wr w.heap.size fv (fstL i A (t + 2)) ∧ Below w.heap.size w wr) (fun _ _ v _ => i - (intOf v).toNat)
      case atStart =>
        rw [← hw2.out]
        exact ⟨0, gc, _, 2, Nat.zero_le _, rfl, rfl, rfl, g1, s2, by omega, by omega, by have := hgs; omega, Q2.out, P2.out, C2.out, O2.out, B2⟩
      case round =>
        clear Q2 P2 C2 O2 B2 hw2 hx1 s2 s3 g1 g2 hgs hgc hwo C0
        obtain ⟨t, gc, gf, cap, ht, rfl, rfl, rfl, g1, g2, g3, g4, g5, hq, hp, hc, hown, hbel⟩ := hrel
        by_cases hlt3 : t < i
        · replace hq := Lib.hid hq
          replace hp := Lib.hid hp
          replace hc := Lib.hid hc
          replace hown := Lib.hid hown
          obtain ⟨wo, hwo⟩ : ∃ wo : World, wo = wr := ⟨_, rfl⟩
          subst hwo
          go_wp2
          go_loopw [8, 50] (fun dv v wr => ∃ j : Nat, j ≤ i ∧ v = .int .i64 j ∧ dv = .int .i64 (wrap64 (Mx.S j fun l => A i l * Mx.bc i A t l)) ∧ ∃ m, wr = wo.drewN m) (fun _ v _ => i - (intOf v).toNat)
          case atStart => exact ⟨0, Nat.zero_le _, rfl, by rw [S_none, wrap_zero], 0, rfl⟩
          case round =>
            obtain ⟨j, hj, rfl, rfl, m, rfl⟩ := hrel
            by_cases hlj : j < i
            · have c1 := sq_cell hq.out (i := i) (j := j) (by omega) (by omega)
              have c2 := row_cell hc.out hlj
              have i6 : (j : Int) < 6 := by omega
              have hm := Lib.hid (wrap_mac (Mx.S j fun l => A i l * Mx.bc i A t l) (A i j) (Mx.bc i A t j))
              generalize wrap64 (Mx.S j fun l => A i l * Mx.bc i A t l) = x0 at *
              generalize wrap64 (A i j) = x1 at *
              generalize wrap64 (Mx.bc i A t j) = x2 at *
              go_wp2
              go_quiet (fail)
              go_wp2
              go_roundw
              case rel => exact ⟨j + 1, by omega, by go_num, by rw [S_next, ← hm.out], _, rfl⟩
              case measure => simp [intOf]; omega
            obtain rfl : j = i := by omega
            clear hj hlj
            have hmore := fst_more j A t
            obtain ⟨x0, hx0⟩ : ∃ x, x = wrap64 (Mx.S j fun l => A j l * Mx.bc j A t l) := ⟨_, rfl⟩
            rw [← hx0] at hmore ⊢
            obtain ⟨w2, hw2⟩ : ∃ w2 : World, w2 = wo.drewN m := ⟨_, rfl⟩
            have e2 : w2.heap = wo.heap := by rw [hw2]; rfl
            have hq2 := hq.out
            have hp2 := hp.out
            have hc2 := hc.out
            rw [← e2] at hq2 hp2 hc2
            clear e2
            have hown2 : Own w2 w.heap.size (.slice (some ⟨gf, 0, none⟩) (t + 2) cap) (fstL j A (t + 2)) := by rw [hw2]; exact hown.out
            have hbel2 : Below w.heap.size w w2 := by rw [hw2]; exact below_drewN hbel m
            rw [← hw2]
            clear hw2 hq hp hc hown hbel
            have hlen : (fstL j A (t + 2)).length < 17592186044416 := by rw [fstL_length]; omega
            have hem : t + 2 + 1 = (fstL j A (t + 2)).length + 1 := by rw [fstL_length]
            have hB := hbel2.size
            have hfs := fstL_succ j A (t + 2)
            rw [hmore] at hfs
            have lq := lt_of_some hq2
            have lp := lt_of_some hp2
            have lc := lt_of_some hc2
            generalize fstL j A (t + 2) = ys at *
            replace hq2 := Lib.hid hq2
            replace hp2 := Lib.hid hp2
            replace hc2 := Lib.hid hc2
            replace hown2 := Lib.hid hown2
            replace hfs := Lib.hid hfs
            replace hmore := Lib.hid hmore
            replace hx0 := Lib.hid hx0
            replace hem := Lib.hid hem
            have hmk := run_make_room j j (Nat.le_refl _) (by omega)
            go_wp2_with (at_builtin; refine app_at rfl (.tmp 67) (.tmp 70) rfl w.heap.size gf (t + 2) cap ys (wrap64 (-x0)) rfl hown2.out rfl hlen hB (t + 2 + 1) hem.out ?_; intro g' cap' w3 ho' hg' hot hb' hs3)
            have lg := own_block ho'
            have hq3 := (hot w.heap.size lq (by omega)).trans hq2.out
            have hp3 := (hot gp lp (by omega)).trans hp2.out
            have hc3 := (hot gc lc (by omega)).trans hc2.out
            have hbel3 := hbel2.trans hb'
            have ng : gp ≠ g' := by rcases hg' with h | h <;> omega
            have ne3 : g' < w3.heap.size := lg.2
            have nb3 : w.heap.size < g' := by rcases hg' with h | h <;> omega
            rw [← hfs.out] at ho'
            clear hot hq2 hp2 hc2 hown2 hbel2 hb' lg hg' hfs hmore hx0 hem hlen ys
            have hB3 := hbel3.size
            obtain ⟨w4, hw4⟩ : ∃ w4 : World, w4 = w3.alloc (.cells (roomCells j) 3) := ⟨_, rfl⟩
            have N4 := heap_alloc_new w3 (.cells (roomCells j) 3)
            rw [room_row, ← nxF_zero j A t, nxF_zero j A t, ← room_row, ← hw4, room_row, ← nxF_zero j A t] at N4
            have Q4 := (heap_alloc_old w3 (.cells (roomCells j) 3) (lt_of_some hq3)).trans hq3
            have P4 := (heap_alloc_old w3 (.cells (roomCells j) 3) (lt_of_some hp3)).trans hp3
            have C4 := (heap_alloc_old w3 (.cells (roomCells j) 3) (lt_of_some hc3)).trans hc3
            have F4 := heap_alloc_old w3 (.cells (roomCells j) 3) ne3
            have B4 := hbel3.alloc hB3 (.cells (roomCells j) 3)
            rw [← hw4] at Q4 P4 C4 F4 B4
            have O4 := own_eq ho' F4
            have S4 : w4.heap.size = w3.heap.size + 1 := by rw [hw4]; simp
            have lp3 := lt_of_some hp3
            have lc3 := lt_of_some hc3
            obtain ⟨gn, hgn⟩ : ∃ gn, gn = w3.heap.size := ⟨_, rfl⟩
            rw [← hgn] at N4 S4 ne3 hB3 lp3 lc3
            clear hmk
            rw [← hw4, ← hgn]
            clear hq3 hp3 hc3 ho' F4 hbel3
            replace hw4 := Lib.hid hw4
            replace hgn := Lib.hid hgn
            replace N4 := Lib.hid N4
            replace Q4 := Lib.hid Q4
            replace P4 := Lib.hid P4
            replace C4 := Lib.hid C4
            replace O4 := Lib.hid O4
            go_loopw [75] (fun v wr => ∃ a : Nat, a ≤ j ∧ v = .int .i64 a ∧ But gn w4 wr ∧ wr.heap[gn]? = some (.cells (rowCells j (nxF j A t a 0)) 3 (0, 0)) ∧ Below w.heap.size w wr) (fun v _ => j - (intOf v).toNat)
            case atStart => exact ⟨0, Nat.zero_le _, rfl, But.refl _ _, N4.out, B4⟩
            case round =>
              clear N4
              obtain ⟨a, ha, rfl, hbut, hc, hbel⟩ := hrel
              by_cases hla : a < j
              · obtain ⟨wo, hwo⟩ : ∃ wo : World, wo = wr := ⟨_, rfl⟩
                subst hwo
                replace hc := Lib.hid hc
                replace hbut := Lib.hid hbut
                go_wp2
                go_loopw [79] (fun v wr => ∃ b : Nat, b ≤ j ∧ v = .int .i64 b ∧ But gn w4 wr ∧ wr.heap[gn]? = some (.cells (rowCells j (nxF j A t a b)) 3 (0, 0)) ∧ Below w.heap.size w wr) (fun v _ => j - (intOf v).toNat)
                case atStart => exact ⟨0, Nat.zero_le _, rfl, hbut.out, hc.out, hbel⟩
                case round =>
                  clear hc hbut hbel
                  obtain ⟨b, hb, rfl, hbut, hc, hbel⟩ := hrel
                  by_cases hlb : b < j
                  · have c1 := sq_cell (hbut.get Q4.out (by omega)) (i := a) (j := b) (by omega) (by omega)
                    have c2 := row_cell hc hla
                    have c3 := row_cell (hbut.get C4.out (by omega)) hlb
                    have f2 := frozen_of_row wr gn a _ 3 hc
                    have hset := row_set hc a (nxF j A t a b a + A a b * Mx.bc j A t b)
                    rw [nxF_step] at hset
                    have hv := wrap_mac (nxF j A t a b a) (A a b) (Mx.bc j A t b)
                    have a6 : (a : Int) < 6 := by omega
                    have b6 : (b : Int) < 6 := by omega
                    generalize wrap64 (nxF j A t a b a + A a b * Mx.bc j A t b) = nv at *
                    generalize wrap64 (nxF j A t a b a) = x0 at *
                    generalize wrap64 (A a b) = x1 at *
                    generalize wrap64 (Mx.bc j A t b) = x2 at *
                    replace hset := Lib.hid hset
                    replace hc := Lib.hid hc
                    replace hbut := Lib.hid hbut
                    replace hv := Lib.hid hv
                    go_wp2
                    go_region
                    go_wp2
                    go_roundw
                    case rel =>
                      have hset := hset.out
                      rw [← hv.out] at hset
                      exact ⟨b + 1, by omega, by go_num, hbut.out.set _ _, hset, (hbel.setCell (p := ⟨gn, a, none⟩) (by show w.heap.size ≤ gn; omega) _).drew⟩
                    case measure => simp [intOf]; omega
                  obtain rfl : b = j := by omega
                  rw [nxF_next] at hc
                  replace hc := Lib.hid hc
                  replace hbut := Lib.hid hbut
                  go_wp2
                  go_roundw
                  case rel => exact ⟨a + 1, by omega, by go_num, hbut.out, hc.out, hbel⟩
                  case measure => simp [intOf]; omega
              obtain rfl : a = j := by omega
              rw [nxF_end] at hc
              have hq5 := hbut.get Q4.out (by omega)
              have hp5 := hbut.get P4.out (by omega)
              have ho5 := own_eq O4.out (hbut g' (by omega) (by omega))
              replace hc := Lib.hid hc
              replace hbut := Lib.hid hbut
              replace hq5 := Lib.hid hq5
              replace hp5 := Lib.hid hp5
              replace ho5 := Lib.hid ho5
              go_wp2
              go_roundw
              case rel => exact ⟨t + 1, gn, g', cap', by omega, by go_num, rfl, rfl, by omega, by omega, by omega, ng, by omega, hq5.out, hp5.out, hc.out, ho5.out, hbel⟩
              case measure => simp [intOf]; omega
        obtain rfl : t = i := by omega
        clear ht hlt3
        have hB := hbel.size
        have lg := own_block hown
        obtain ⟨w4, hw4⟩ : ∃ w4 : World, w4 = wr.alloc (.cells (roomCells (t + 2)) 3) := ⟨_, rfl⟩
        have N4 := heap_alloc_new wr (.cells (roomCells (t + 2)) 3)
        rw [room_row, ← ouF_zero t A, ouF_zero t A, ← room_row, ← hw4, room_row, ← ouF_zero t A] at N4
        have Q4 := (heap_alloc_old wr (.cells (roomCells (t + 2)) 3) (lt_of_some hq)).trans hq
        have P4 := (heap_alloc_old wr (.cells (roomCells (t + 2)) 3) (lt_of_some hp)).trans hp
        have F4 := heap_alloc_old wr (.cells (roomCells (t + 2)) 3) lg.2
        have B4 := hbel.alloc hB (.cells (roomCells (t + 2)) 3)
        rw [← hw4] at Q4 P4 F4 B4
        have O4 := own_eq hown F4
        have S4 : w4.heap.size = wr.heap.size + 1 := by rw [hw4]; simp
        have lp3 := lt_of_some hp
        obtain ⟨gn, hgn⟩ : ∃ gn, gn = wr.heap.size := ⟨_, rfl⟩
        have hmk : (Instr.makeSlice 22 (.int .i64 ((t : Int) + 2)) (.int .i64 ((t : Int) + 2))).run Tryd.prog wr = .ok (.slice (some ⟨gn, 0, none⟩) (t + 2) (t + 2)) w4 := by
          rw [hw4, hgn]; exact run_make_room (t + 2) (t + 2) (Nat.le_refl _) (by omega) wr
        rw [← hgn] at N4 S4 lg hB lp3
        have lg2 := lg.2
        clear hq hp hc hown F4 hbel lg
        replace hw4 := Lib.hid hw4
        replace hgn := Lib.hid hgn
        replace N4 := Lib.hid N4
        replace Q4 := Lib.hid Q4
        replace P4 := Lib.hid P4
        replace O4 := Lib.hid O4
        go_wp2
        go_loopw [108] (fun v wr => ∃ a : Nat, a ≤ t + 2 ∧ v = .int .i64 a ∧ But gn w4 wr ∧ wr.heap[gn]? = some (.cells (rowCells (t + 2) (ouF t A a 0)) 3 (0, 0)) ∧ Below w.heap.size w wr) (fun v _ => t + 2 - (intOf v).toNat)
        case atStart => exact ⟨0, Nat.zero_le _, rfl, But.refl _ _, N4.out, B4⟩
        case round =>
          clear hmk N4
          obtain ⟨a, ha, rfl, hbut, hc, hbel⟩ := hrel
          by_cases hla : a < t + 2
          · obtain ⟨wo, hwo⟩ : ∃ wo : World, wo = wr := ⟨_, rfl⟩
            subst hwo
            replace hc := Lib.hid hc
            replace hbut := Lib.hid hbut
            have e7 : decide ((a : Int) < (t : Int) + 2) = true := decide_eq_true (by omega)
            go_wp2
            go_loopw [113] (fun v wr => ∃ b : Nat, b ≤ t + 1 ∧ v = .int .i64 b ∧ But gn w4 wr ∧ wr.heap[gn]? = some (.cells (rowCells (t + 2) (ouF t A a b)) 3 (0, 0)) ∧ Below w.heap.size w wr) (fun v _ => t + 1 - (intOf v).toNat)
            case atStart => exact ⟨0, Nat.zero_le _, rfl, hbut.out, hc.out, hbel⟩
            case round =>
              clear hc hbut hbel
              obtain ⟨b, hb, rfl, hbut, hc, hbel⟩ := hrel
              by_cases hlb : b < t + 1
              · rcases Nat.lt_or_ge a b with hab | hab
                · rw [ouF_skip t A hab] at hc
                  replace hc := Lib.hid hc
                  replace hbut := Lib.hid hbut
                  go_wp2
                  go_roundw
                  case rel => exact ⟨b + 1, by omega, by go_num, hbut.out, hc.out, hbel⟩
                  case measure => simp [intOf]; omega
                · obtain ⟨d, hd⟩ : ∃ d, a = b + d := ⟨a - b, by omega⟩
                  have hsub : (a : Int) - (b : Int) = (d : Int) := by omega
                  have hdl : d < t + 2 := by omega
                  have c1 := row_cell hc hla
                  have c2 := row_cell (hbut.get P4.out (by omega)) hlb
                  have hown := own_eq O4.out (hbut gf (by omega) (by omega))
                  obtain ⟨bf, of', ef, c3⟩ := hown.row d (by rw [fstL_length]; exact hdl)
                  cases ef
                  rw [fstL_get hdl, Nat.zero_add] at c3
                  have f2 := frozen_of_row wr gn a _ 3 hc
                  have hset := row_set hc a (ouF t A a b a + (Mx.fst t A).co (a - b) * (Mx.chi t A).co b)
                  rw [ouF_step t A hab] at hset
                  have hv := wrap_mac (ouF t A a b a) ((Mx.fst t A).co (a - b)) ((Mx.chi t A).co b)
                  rw [show a - b = d by omega] at hv hset
                  generalize wrap64 (ouF t A a b a + (Mx.fst t A).co d * (Mx.chi t A).co b) = nv at *
                  generalize wrap64 (ouF t A a b a) = x0 at *
                  generalize wrap64 ((Mx.fst t A).co d) = x1 at *
                  generalize wrap64 ((Mx.chi t A).co b) = x2 at *
                  clear hown
                  replace hset := Lib.hid hset
                  replace hc := Lib.hid hc
                  replace hbut := Lib.hid hbut
                  replace hv := Lib.hid hv
                  replace hd := Lib.hid hd
                  go_wp2
                  go_region
                  go_wp2
                  go_roundw
                  case rel =>
                    have hset := hset.out
                    rw [← hv.out] at hset
                    exact ⟨b + 1, by omega, by go_num, hbut.out.set _ _, hset, (hbel.setCell (p := ⟨gn, a, none⟩) (by show w.heap.size ≤ gn; omega) _).drew⟩
                  case measure => simp [intOf]; omega
              obtain rfl : b = t + 1 := by omega
              rw [ouF_next] at hc
              replace hc := Lib.hid hc
              replace hbut := Lib.hid hbut
              go_wp2
              go_roundw
              case rel => exact ⟨a + 1, by omega, by go_num, hbut.out, hc.out, hbel⟩
              case measure => simp [intOf]; omega
          obtain rfl : a = t + 2 := by omega
          rw [ouF_end] at hc
          have hq5 := hbut.get Q4.out (by omega)
          replace hc := Lib.hid hc
          replace hq5 := Lib.hid hq5
          go_wp2
          go_roundw
          case rel => exact ⟨t + 1, gn, by omega, by go_num, rfl, by omega, hq5.out, hc.out, hbel⟩
          case measure => simp [intOf]; omega

end Go.Proofs.YtcenhemlgapkeaaDoor
