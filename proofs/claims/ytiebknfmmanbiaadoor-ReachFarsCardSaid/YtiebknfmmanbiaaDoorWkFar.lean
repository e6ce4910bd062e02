/- The call reach.Far: how many steps from a thing to each. Condition: rows that lie as lists of ints; the library's table is laid. -/
import Derived.Test.YtiebknfmmanbiaaDoorWkTz
import Derived.Deep.QuietTactic
import Derived.BigQuiet
namespace Go.Proofs.YtiebknfmmanbiaaDoor
open Go.RowKit

namespace M
/-- The steps from o to each thing, -1 if it never comes there. -/
def far (x : Arr) (o : Int) : Except Int (List Int) :=
  if relFault x = 0 then (if o < 0 ∨ (relN x : Int) ≤ o then .error 5 else .ok (farUp (relN x) (relE x) o.toNat (relN x))) else .error (relFault x)
end M
/-- The first i are told -1. -/
def negUp (n i : Nat) : List Int := (List.range n).map fun k => if k < i then -1 else 0
theorem negUp_length (n i : Nat) : (negUp n i).length = n := by simp [negUp]
theorem negUp_zero (n : Nat) : negUp n 0 = List.replicate n 0 := by apply List.ext_getElem <;> simp [negUp]
theorem negUp_all (n : Nat) : negUp n n = List.replicate n (-1) := by
  apply List.ext_getElem
  · simp [negUp]
  · intro k h1 h2
    have : k < n := by simpa [negUp] using h1
    simp [negUp, this]
theorem negUp_set {n i : Nat} : (negUp n i).set i (-1) = negUp n (i + 1) := by
  apply List.ext_getElem
  · simp [negUp]
  · intro k h1 h2
    rw [List.getElem_set]
    simp only [negUp, List.getElem_map, List.getElem_range]
    by_cases e : i = k
    · rw [if_pos e, if_pos (by omega)]
    · rw [if_neg e]
      by_cases e2 : k < i
      · rw [if_pos e2, if_pos (by omega)]
      · rw [if_neg e2, if_neg (by omega)]

set_option maxRecDepth 20000 in
set_option maxHeartbeats 16000000 in
theorem far_any (o : Int) (ch : Bool) (a b : Option Addr) (s d : List Int) (m c n z : Nat) (w : World) (hs : Row w a s) (hd : Row w b d) (ls : s.length ≤ maxLen) (ld : d.length ≤ maxLen) (em : m = s.length) (en : n = d.length) (htab : Tab32 w) :
    Calls Tryd.prog 24 #[arrV ch a m c b n z, .int .i64 o] w (ListPost (M.far ⟨ch, s, d⟩ o) w) := by
  subst em
  subst en
  have hread := fun w h1 h2 => read_any ch a b s d _ c _ z w h1 h2 ls ld rfl rfl
  have E := (((Env.start w).addRow hd).addRow hs).box ch a s.length c b d.length z
  have hi : ∀ T, Masks T → (Tryd.prog.info? 79).map (·.size) = some (maskCells T).size := fun T h => by rw [mask_size, h.1]; exact Tryd.infoThings
  have hsz : ∀ T U, Masks T → Masks U → (maskCells U).size = (maskCells T).size := fun T U h k => by rw [mask_size, mask_size, h.1, k.1]
  replace hi := Lib.hid hi
  replace hsz := Lib.hid hsz
  replace hread := Lib.hid hread
  replace htab := Lib.hid htab
  by_cases hf : M.relFault ⟨ch, s, d⟩ = 0
  case neg =>
    have hr := Lib.hid (show M.far ⟨ch, s, d⟩ o = .error (M.relFault ⟨ch, s, d⟩) from if_neg hf)
    replace hf := Lib.hid hf
    go_enter Tryd.func24, Tryd.ntmps24
    go_wp2_with fail
    refine (hread.out _ (E.getRow 1 rfl) (E.getRow 2 rfl)).mono ?_
    intro e w1 hp
    obtain ⟨T, rfl, hM⟩ := hp.2.1 hf.out
    have hb := hp.2.2
    clear hp
    replace E := E.step hb
    generalize M.relFault ⟨ch, s, d⟩ = nn at *
    have X := heap_alloc_new w1 (.cells (maskCells zeros24) 79)
    rw [zeros_cells] at X
    replace hM := Lib.hid hM
    have E2 := E.step (below_setRow (push (start w1) (.cells (maskCells zeros24) 79)) w1.heap.size (maskCells T) (Nat.le_refl _))
    rw [zeros_cells] at E2
    go_wp2_with (refine wpList_store_row rfl 79 _ _ rfl w1.heap.size _ rfl rfl _ _ X (hi.out _ hM.out) (hsz.out _ _ hM.out masks_zero) (mask_one _) ?_)
    go_ret2
    exact .error hr.out rfl E2.bel
  case pos =>
    have hr := show M.far ⟨ch, s, d⟩ o = (if o < 0 ∨ (M.relN ⟨ch, s, d⟩ : Int) ≤ o then .error 5 else .ok (farUp (M.relN ⟨ch, s, d⟩) (M.relE ⟨ch, s, d⟩) o.toNat (M.relN ⟨ch, s, d⟩))) from if_pos hf
    have hE : ∀ i j, M.relE ⟨ch, s, d⟩ i j = true → j < M.relN ⟨ch, s, d⟩ := fun i j h => by
      unfold M.relE at h
      rw [Bool.and_eq_true] at h
      exact (of_decide_eq_true h.1).2
    generalize M.far ⟨ch, s, d⟩ o = RR at *
    replace hf := Lib.hid hf
    replace hr := Lib.hid hr
    replace hE := Lib.hid hE
    by_cases ho : o < 0 ∨ (M.relN ⟨ch, s, d⟩ : Int) ≤ o
    case pos =>
      have hr2 := hr.out
      rw [if_pos ho] at hr2
      replace hr2 := Lib.hid hr2
      clear hr
      go_enter Tryd.func24, Tryd.ntmps24
      go_wp2_with fail
      refine (hread.out _ (E.getRow 1 rfl) (E.getRow 2 rfl)).mono ?_
      intro e w1 hp
      obtain ⟨T, rfl, hM, hT, hn⟩ := hp.1 hf.out
      have hb := hp.2.2
      clear hp hT hE
      replace E := E.step hb
      generalize M.relN ⟨ch, s, d⟩ = n at *
      have X := heap_alloc_new w1 (.cells (maskCells zeros24) 79)
      rw [zeros_cells] at X
      replace hM := Lib.hid hM
      have E2 := E.step (below_setRow (push (start w1) (.cells (maskCells zeros24) 79)) w1.heap.size (maskCells T) (Nat.le_refl _))
      rw [zeros_cells] at E2
      have hbel := E2.bel
      clear E E2
      by_cases h0 : o < 0
      · have t0 : decide (o < 0) = true := decide_eq_true h0
        replace ho := Lib.hid ho
        go_wp2_with (refine wpList_store_row rfl 79 _ _ rfl w1.heap.size _ rfl rfl _ _ X (hi.out _ hM.out) (hsz.out _ _ hM.out masks_zero) (mask_one _) ?_)
        go_ret2
        exact .error hr2.out rfl hbel
      · have t0 : decide (o < 0) = false := decide_eq_false h0
        have t1 : decide (o ≥ (n : Int)) = true := decide_eq_true (by omega)
        replace ho := Lib.hid ho
        go_wp2_with (refine wpList_store_row rfl 79 _ _ rfl w1.heap.size _ rfl rfl _ _ X (hi.out _ hM.out) (hsz.out _ _ hM.out masks_zero) (mask_one _) ?_)
        go_ret2
        exact .error hr2.out rfl hbel
    case neg =>
      have hr2 := hr.out
      rw [if_neg ho] at hr2
      clear hr
      obtain ⟨O, rfl⟩ : ∃ O : Nat, o = O := ⟨o.toNat, by omega⟩
      rw [Int.toNat_natCast] at hr2
      replace hr2 := Lib.hid hr2
      have hO : O < M.relN ⟨ch, s, d⟩ := by omega
      clear ho
      go_enter Tryd.func24, Tryd.ntmps24
      go_wp2_with fail
      refine (hread.out _ (E.getRow 1 rfl) (E.getRow 2 rfl)).mono ?_
      intro e w1 hp
      obtain ⟨T, rfl, hM, hT, hn⟩ := hp.1 hf.out
      have hb := hp.2.2
      clear hp
      replace E := E.step hb
      have n1 : w.heap.size < w1.heap.size := (E.getBox 0 rfl).lt
      clear hb hf
      generalize M.relE ⟨ch, s, d⟩ = F at *
      generalize M.relN ⟨ch, s, d⟩ = n at *
      have X := heap_alloc_new w1 (.cells (maskCells zeros24) 79)
      have Y := setRow_heap _ _ _ (maskCells T) _ _ X
      replace E := E.step (below_setRow (push (start w1) (.cells (maskCells zeros24) 79)) w1.heap.size (maskCells T) (Nat.le_refl _))
      rw [zeros_cells] at E X Y
      have SZ : ((w1.alloc (.cells #[.int .u32 0, .int .u32 0, .int .u32 0, .int .u32 0, .int .u32 0, .int .u32 0, .int .u32 0, .int .u32 0, .int .u32 0, .int .u32 0, .int .u32 0, .int .u32 0, .int .u32 0, .int .u32 0, .int .u32 0, .int .u32 0, .int .u32 0, .int .u32 0, .int .u32 0, .int .u32 0, .int .u32 0, .int .u32 0, .int .u32 0, .int .u32 0] 79)).setRow w1.heap.size (maskCells T)).heap.size = w1.heap.size + 1 := by simp
      have hbel := push E.bel (.cells (zeroCells n) 3)
      clear E
      generalize hwm : (w1.alloc (.cells #[.int .u32 0, .int .u32 0, .int .u32 0, .int .u32 0, .int .u32 0, .int .u32 0, .int .u32 0, .int .u32 0, .int .u32 0, .int .u32 0, .int .u32 0, .int .u32 0, .int .u32 0, .int .u32 0, .int .u32 0, .int .u32 0, .int .u32 0, .int .u32 0, .int .u32 0, .int .u32 0, .int .u32 0, .int .u32 0, .int .u32 0, .int .u32 0] 79)).setRow w1.heap.size (maskCells T) = wm at SZ hbel Y
      obtain ⟨g, hg⟩ : ∃ g, g = w1.heap.size := ⟨_, rfl⟩
      have Y2 := (heap_alloc_old wm (.cells (zeroCells n) 3) (lt_of_some Y)).trans Y
      have O0 : (wm.alloc (.cells (zeroCells n) 3)).heap[wm.heap.size]? = some (.cells (cellsOf (negUp n 0)) 3 (0, 0)) := by rw [heap_alloc_new, room_cells, negUp_zero]
      have hwg : w.heap.size ≤ g := by rw [hg]; omega
      obtain ⟨h, hh⟩ : ∃ h, h = wm.heap.size := ⟨_, rfl⟩
      have hgh : h = g + 1 := by rw [hh, SZ, hg]
      rw [← hh] at O0
      rw [← hg] at Y2
      have hmk := run_make_ints n (by omega)
      have t0 : decide ((O : Int) < 0) = false := decide_eq_false (by omega)
      have t1 : decide ((O : Int) ≥ (n : Int)) = false := decide_eq_false (by omega)
      have t2 : decide (n ≤ O) = false := decide_eq_false (by omega)
      replace hM := Lib.hid hM
      replace hT := Lib.hid hT
      replace SZ := Lib.hid SZ
      replace hbel := Lib.hid hbel
      replace Y := Lib.hid Y
      replace Y2 := Lib.hid Y2
      replace O0 := Lib.hid O0
      replace hg := Lib.hid hg
      replace hh := Lib.hid hh
      replace hgh := Lib.hid hgh
      have hwm' := Lib.hid hwm
      clear hwm
      go_upto_region 6 with (refine wpList_store_row rfl 79 _ _ rfl w1.heap.size _ rfl rfl _ _ X (hi.out _ hM.out) (hsz.out _ _ hM.out masks_zero) (mask_one _) ?_)
      clear X
      rw [hwm'.out, ← hg.out]
      go_wp2
      rw [← hh.out]
      clear hmk t0 t1 t2
      go_loopw [37] (fun v wr => ∃ i : Nat, i ≤ n ∧ v = .int .i64 i ∧ wr.heap[h]? = some (.cells (cellsOf (negUp n i)) 3 (0, 0)) ∧ wr.heap[g]? = some (.cells (maskCells T) 79 (0, 0)) ∧ Below w.heap.size w wr) (fun v _ => n - (intOf v).toNat)
      case atStart => exact ⟨0, Nat.zero_le _, rfl, O0.out, Y2.out, hbel.out⟩
      case round =>
        clear O0 Y2 hbel
        obtain ⟨i, hin, rfl, hQ, hY, hbel⟩ := hrel
        have hgh' := hgh.out
        by_cases hlt : i < n
        · have ci := block_cell hQ (k := i) (by rw [negUp_length]; exact hlt)
          have fi := frozen_of_row wr h i _ 3 hQ
          have hQ1 := block_set hQ i (-1)
          rw [negUp_set] at hQ1
          have hY1 := (heap_setCell_other wr ⟨h, i, none⟩ g (.int .i64 (-1)) (by show g ≠ h; omega)).trans hY
          have hb1 := hbel.setCell (p := ⟨h, i, none⟩) (by show w.heap.size ≤ h; omega) (.int .i64 (-1))
          replace hQ := Lib.hid hQ
          replace hY := Lib.hid hY
          replace hQ1 := Lib.hid hQ1
          replace hY1 := Lib.hid hY1
          replace hgh' := Lib.hid hgh'
          go_wp2
          go_roundw
          case rel => exact ⟨i + 1, hlt, num1 i, hQ1.out, hY1.out, hb1⟩
          case measure => exact meas1 hlt
        · obtain rfl : i = n := by omega
          rw [negUp_all, ← farUp_zero i F O] at hQ
          have q5 := u32_pow (k := O) (by omega)
          have o1 : (O : Int) ≤ 32 := by omega
          have o2 : (0 : Int) ≤ (O : Int) := by omega
          have hS0 := Lib.hid (seen_start i F O)
          have hR0 := Lib.hid (rim_start (E := F) hO)
          have hp : 2 ^ O < 4294967296 := Nat.lt_of_le_of_lt (pow_in (show O ≤ 24 by omega)) (by decide)
          replace hp := Lib.hid hp
          replace hQ := Lib.hid hQ
          replace hY := Lib.hid hY
          replace hgh' := Lib.hid hgh'
          go_wp2
          go_quiet (fail)
          go_wp2
          clear q5
          go_loopw [11, 12, 13] (fun v11 v12 v13 wr => ∃ s r d : Nat, v11 = .int .u32 s ∧ v12 = .int .u32 r ∧ v13 = .int .i64 d ∧ d ≤ i ∧ Seen i F O d s ∧ Rim i F O d r ∧ s < 4294967296 ∧ r < 4294967296 ∧ wr.heap[h]? = some (.cells (cellsOf (farUp i F O d)) 3 (0, 0)) ∧ wr.heap[g]? = some (.cells (maskCells T) 79 (0, 0)) ∧ Below w.heap.size w wr) (fun _ _ v _ => i - (intOf v).toNat)
          case atStart => exact ⟨0, 2 ^ O, 0, rfl, by simp, rfl, Nat.zero_le _, hS0.out, hR0.out, by decide, hp.out, hQ.out, hY.out, by first | exact hbel | exact below_drewN hbel _⟩
          case round =>
            clear hS0 hR0 hp hQ hY hbel o1 o2
            obtain ⟨s1, r, e, rfl, rfl, rfl, hen, hS, hR, hs32, hr32, hQ, hY, hbel⟩ := hrel
            by_cases h0 : r = 0
            · subst h0
              rw [far_end hO hR] at hQ
              have hown := own_of_block hQ (B := w.heap.size) (n := i) (by have := hgh'.out; omega) (farUp_length _ _ _ _).symm (by rw [farUp_length]; unfold maxLen; omega)
              have t0 : (((0 : Nat) : Int) != 0) = false := rfl
              replace hQ := Lib.hid hQ
              replace hY := Lib.hid hY
              clear hS hR hs32 hr32
              go_wp2
              go_ret2
              exact .ok hr2.out rfl hown hbel
            · have hel := rim_some hR h0 hr32
              have t0 : ((r : Int) != 0) = true := by rw [bne_iff_ne]; omega
              have b1 := bits_or32 hs32 hr32
              have hS2 := seen_step hS hR
              have hs2 := or_lt32 hs32 hr32
              have hI0 := inRim_start hR
              have hN0 := nxt_start hel hR
              rw [← mid_start hR] at hQ
              generalize s1 ||| r = s2 at *
              replace hQ := Lib.hid hQ
              replace hY := Lib.hid hY
              replace hS2 := Lib.hid hS2
              replace hI0 := Lib.hid hI0
              replace hN0 := Lib.hid hN0
              clear hS hR
              go_wp2
              clear b1 t0
              go_loopw [12, 14] (fun v12 v14 wr => ∃ q x : Nat, v12 = .int .u32 q ∧ v14 = .int .u32 x ∧ InRim i F O e q ∧ Nxt i F O e q x ∧ q < 4294967296 ∧ x < 4294967296 ∧ wr.heap[h]? = some (.cells (cellsOf (farMid i F O e q)) 3 (0, 0)) ∧ wr.heap[g]? = some (.cells (maskCells T) 79 (0, 0)) ∧ Below w.heap.size w wr) (fun v _ _ => (intOf v).toNat)
              case atStart => exact ⟨r, 0, rfl, rfl, hI0.out, hN0.out, hr32, by decide, hQ.out, hY.out, hbel⟩
              case round =>
                clear hI0 hN0 hQ hY hbel
                obtain ⟨q, x, rfl, rfl, hI, hN, hq32, hx32, hQ, hY, hbel⟩ := hrel
                by_cases hq0 : q = 0
                · subst hq0
                  have t0 : (((0 : Nat) : Int) != 0) = false := rfl
                  rw [mid_end] at hQ
                  have b2 := Go.u32_andNot_nat x s2 hx32 hs2
                  have hR2 := rim_next hO hel hE.out hN hS2.out hx32 hs2
                  have hlt2 : (x &&& (4294967295 - s2)) < 4294967296 := Nat.lt_of_le_of_lt Nat.and_le_left hx32
                  generalize x &&& (4294967295 - s2) = r2 at *
                  replace hQ := Lib.hid hQ
                  replace hY := Lib.hid hY
                  replace hR2 := Lib.hid hR2
                  clear hI hN
                  go_wp2
                  go_roundw
                  case rel => exact ⟨s2, r2, e + 1, rfl, rfl, num1 e, hel, hS2.out, hR2.out, hs2, hlt2, hQ.out, hY.out, hbel⟩
                  case measure => exact meas1 hel
                · obtain ⟨k1, k2, k3, k4⟩ := low_clear hq0 hq32
                  have t0 : ((q : Int) != 0) = true := by rw [bne_iff_ne]; omega
                  have htz := tz_any q hq0 hq32 wr (htab.out.below hbel)
                  generalize Lib.ctz 32 q = k at *
                  obtain ⟨hki, hlv⟩ := hI k k2
                  have hI2 := inRim_step hI k3
                  have hMs := mid_step hki hlv hel k3
                  have hN2 := nxt_step hki hlv k3 (t := T.getD k 0) (fun j => hT.out k j) hN
                  have w1 : IntKind.u32.wrap ((q : Int) - 1) = ((q - 1 : Nat) : Int) := by rw [IntKind.wrap_u32]; omega
                  have b3 := bits_and32 hq32 (show q - 1 < 4294967296 by omega)
                  have hq3 : (q &&& (q - 1)) < 4294967296 := Nat.lt_trans k4 hq32
                  have hTk := hM.out.get k
                  have b4 := bits_or32 hx32 hTk
                  have hx3 := or_lt32 hx32 hTk
                  have hM24 := hM.out.1
                  have cm := mask_cell hY (k := k) (by omega)
                  have ck := block_cell hQ (k := k) (by rw [farMid_length]; exact hki)
                  have fk := frozen_of_row wr h k _ 3 hQ
                  have hQ1 := block_set hQ k (e : Int)
                  rw [hMs] at hQ1
                  have hY1 := (heap_setCell_other wr ⟨h, k, none⟩ g (.int .i64 (e : Int)) (by show g ≠ h; have := hgh'.out; omega)).trans hY
                  have hb1 := hbel.setCell (p := ⟨h, k, none⟩) (by show w.heap.size ≤ h; have := hgh'.out; omega) (.int .i64 (e : Int))
                  have ghne : g ≠ h := by have := hgh'.out; omega
                  have cm1 : (wr.setCell ⟨h, k, none⟩ (.int .i64 (e : Int))).cell? ⟨g, k, none⟩ = some (.int .u32 ((T.getD k 0 : Nat) : Int)) := by
                    rw [World.cell?_setCell_other _ _ _ _ (fun e => by cases e; exact ghne rfl)]; exact cm
                  have k24 : (k : Int) < 24 := by omega
                  have kn : (k : Int) < (i : Int) := by omega
                  generalize x ||| T.getD k 0 = x2 at *
                  generalize T.getD k 0 = tk at *
                  generalize q &&& (q - 1) = q2 at *
                  generalize q - 1 = q1 at *
                  replace hQ := Lib.hid hQ
                  replace hY := Lib.hid hY
                  replace hQ1 := Lib.hid hQ1
                  replace hY1 := Lib.hid hY1
                  replace hI2 := Lib.hid hI2
                  replace hN2 := Lib.hid hN2
                  replace htz := Lib.hid htz
                  replace hMs := Lib.hid hMs
                  clear hI hN k1 k2 k3 hlv hTk hM24
                  go_wp2_with fail
                  refine htz.out.mono ?_
                  rintro e9 w9 ⟨rfl, rfl⟩
                  go_wp2
                  go_roundw
                  case rel => exact ⟨q2, x2, rfl, rfl, hI2.out, hN2.out, hq3, hx3, hQ1.out, hY1.out, hb1⟩
                  case measure => (simp [intOf]; omega)
end Go.Proofs.YtiebknfmmanbiaaDoor
