/- The call reach.Classes: each thing's class, by its first thing. Condition: rows that lie as lists of ints. -/
import Derived.Test.YtiebknfmmanbiaaDoorWkClose
import Derived.Test.YtiebknfmmanbiaaDoorInBlk
import Derived.Test.YtiebknfmmanbiaaDoorBdA
namespace Go.Proofs.YtiebknfmmanbiaaDoor
open Go.RowKit

namespace M
def classes (x : Arr) : Except Int (List Int) := if relFault x = 0 then .ok ((List.range (relN x)).map fun i => (Re.cname (relN x) (relE x) i : Int)) else .error (relFault x)
end M

/-- The classes' names up to i, the things' own behind. -/
def clsUp (n : Nat) (E : Nat → Nat → Bool) (i : Nat) : List Int := (List.range n).map fun k => if k < i then (Re.cname n E k : Int) else 0

theorem clsUp_length (n : Nat) (E : Nat → Nat → Bool) (i : Nat) : (clsUp n E i).length = n := by simp [clsUp]
theorem clsUp_zero (n : Nat) (E : Nat → Nat → Bool) : clsUp n E 0 = List.replicate n 0 := by
  apply List.ext_getElem <;> simp [clsUp]
theorem clsUp_all (n : Nat) (E : Nat → Nat → Bool) : clsUp n E n = (List.range n).map fun i => (Re.cname n E i : Int) := by
  apply List.ext_getElem
  · simp [clsUp]
  · intro k h1 h2
    have : k < n := by simpa [clsUp] using h1
    simp [clsUp, this]
theorem clsUp_set {n : Nat} {E : Nat → Nat → Bool} {i : Nat} : (clsUp n E i).set i (Re.cname n E i : Int) = clsUp n E (i + 1) := by
  apply List.ext_getElem
  · simp [clsUp]
  · intro k h1 h2
    have hk : k < n := by simpa [clsUp] using h2
    rw [List.getElem_set]
    simp only [clsUp, List.getElem_map, List.getElem_range]
    by_cases e : i = k
    · subst e; rw [if_pos rfl, if_pos (by omega)]
    · rw [if_neg e]
      by_cases h : k < i
      · rw [if_pos h, if_pos (by omega)]
      · rw [if_neg h, if_neg (by omega)]

theorem first_none {P : Nat → Bool} {d k : Nat} (h : ∀ j, j < k → P j = false) : Re.first P d k = d := by
  induction k with
  | zero => rfl
  | succ k ih =>
    simp only [Re.first]
    rw [ih fun j hj => h j (by omega), if_neg (fun h => h rfl), h k (by omega)]
    rfl
theorem first_stay {P : Nat → Bool} {d j : Nat} (hj : j ≠ d) : ∀ k, Re.first P d (j + 1) = j → Re.first P d (j + 1 + k) = j := by
  intro k h
  induction k with
  | zero => exact h
  | succ k ih =>
    have e : Re.first P d (j + 1 + (k + 1)) = if Re.first P d (j + 1 + k) ≠ d then Re.first P d (j + 1 + k) else if P (j + 1 + k) then j + 1 + k else d := rfl
    rw [e, ih, if_pos hj]
theorem first_hit {P : Nat → Bool} {i j : Nat} (hji : j < i) (hb : ∀ k, k < j → P k = false) (hj : P j = true) : Re.first P i i = j := by
  have h1 : Re.first P i (j + 1) = j := by
    simp only [Re.first]
    rw [first_none hb, if_neg (fun h => h rfl), if_pos hj]
  have := first_stay (by omega) (i - (j + 1)) h1
  rwa [show j + 1 + (i - (j + 1)) = i by omega] at this

set_option maxHeartbeats 8000000 in
theorem classes_any (ch : Bool) (a b : Option Addr) (s d : List Int) (m c n z : Nat) (w : World) (hs : Row w a s) (hd : Row w b d) (ls : s.length ≤ maxLen) (ld : d.length ≤ maxLen) (em : m = s.length) (en : n = d.length) :
    Calls Tryd.prog 48 #[arrV ch a m c b n z] w (ListPost (M.classes ⟨ch, s, d⟩) w) := by
  subst em
  subst en
  have hread := fun w h1 h2 => read_any ch a b s d _ c _ z w h1 h2 ls ld rfl rfl
  have E := (((Env.start w).addRow hd).addRow hs).box ch a s.length c b d.length z
  have hi : ∀ T, Masks T → (Tryd.prog.info? 79).map (·.size) = some (maskCells T).size := fun T h => by rw [mask_size, h.1]; exact Tryd.infoThings
  have hsz : ∀ T U, Masks T → Masks U → (maskCells U).size = (maskCells T).size := fun T U h k => by rw [mask_size, mask_size, h.1, k.1]
  replace hi := Lib.hid hi
  replace hsz := Lib.hid hsz
  replace hread := Lib.hid hread
  by_cases hf : M.relFault ⟨ch, s, d⟩ = 0
  case neg =>
    have hr := Lib.hid (show M.classes ⟨ch, s, d⟩ = .error (M.relFault ⟨ch, s, d⟩) from if_neg hf)
    replace hf := Lib.hid hf
    go_enter Tryd.func48, Tryd.ntmps48
    go_wp2_with fail
    refine (hread.out _ (E.getRow 1 rfl) (E.getRow 2 rfl)).mono ?_
    intro e w1 hp
    obtain ⟨T, rfl, hM⟩ := hp.2.1 hf.out
    have hb := hp.2.2
    clear hp
    replace E := E.step hb
    generalize M.relFault ⟨ch, s, d⟩ = nn at *
    have X := heap_alloc_new w1 (.cells (maskCells zeros24) 79)
    rw [zeros_cells] at X
    replace hM := Lib.hid hM
    have E2 := E.step (below_setRow (push (start w1) (.cells (maskCells zeros24) 79)) w1.heap.size (maskCells T) (Nat.le_refl _))
    rw [zeros_cells] at E2
    go_wp2_with (refine wpList_store_row rfl 79 _ _ rfl w1.heap.size _ rfl rfl _ _ X (hi.out _ hM.out) (hsz.out _ _ hM.out masks_zero) (mask_one _) ?_)
    go_ret2
    exact .error hr.out rfl E2.bel
  case pos =>
    have hr := Lib.hid (show M.classes ⟨ch, s, d⟩ = .ok ((List.range (M.relN ⟨ch, s, d⟩)).map fun i => (Re.cname (M.relN ⟨ch, s, d⟩) (M.relE ⟨ch, s, d⟩) i : Int)) from if_pos hf)
    replace hf := Lib.hid hf
    go_enter Tryd.func48, Tryd.ntmps48
    go_wp2_with fail
    refine (hread.out _ (E.getRow 1 rfl) (E.getRow 2 rfl)).mono ?_
    intro e w1 hp
    obtain ⟨T, rfl, hM, hT, hn⟩ := hp.1 hf.out
    have hb := hp.2.2
    clear hp
    replace E := E.step hb
    have n1 : w.heap.size < w1.heap.size := (E.getBox 0 rfl).lt
    clear hb
    generalize M.relE ⟨ch, s, d⟩ = F at *
    generalize M.relN ⟨ch, s, d⟩ = n at *
    have X := heap_alloc_new w1 (.cells (maskCells zeros24) 79)
    have Y := setRow_heap _ _ _ (maskCells T) _ _ X
    replace E := E.step (below_setRow (push (start w1) (.cells (maskCells zeros24) 79)) w1.heap.size (maskCells T) (Nat.le_refl _))
    rw [zeros_cells] at E X Y
    replace hM := Lib.hid hM
    replace hT := Lib.hid hT
    have SZ : ((w1.alloc (.cells #[.int .u32 0, .int .u32 0, .int .u32 0, .int .u32 0, .int .u32 0, .int .u32 0, .int .u32 0, .int .u32 0, .int .u32 0, .int .u32 0, .int .u32 0, .int .u32 0, .int .u32 0, .int .u32 0, .int .u32 0, .int .u32 0, .int .u32 0, .int .u32 0, .int .u32 0, .int .u32 0, .int .u32 0, .int .u32 0, .int .u32 0, .int .u32 0] 79)).setRow w1.heap.size (maskCells T)).heap.size = w1.heap.size + 1 := by simp
    replace SZ := Lib.hid SZ
    go_wp2_with (first
      | (refine wpList_store_row rfl 79 _ _ rfl w1.heap.size _ rfl rfl _ _ X (hi.out _ hM.out) (hsz.out _ _ hM.out masks_zero) (mask_one _) ?_)
      | (refine wpList_load_row rfl 79 _ rfl w1.heap.size rfl _ _ _ _ Y Tryd.underlying79 rfl (hi.out _ hM.out) ?_))
    refine (closed_any T n _ hM.out hn).mono ?_
    rintro e w2 ⟨T2, rfl, hM2, hE2, hb⟩
    have X2 := (hb.block w1.heap.size (by rw [SZ.out]; omega)).trans Y
    have Y2 := setRow_heap _ _ _ (maskCells T2) _ _ X2
    have S2 := hb.size
    rw [SZ.out] at S2
    have hG : ∀ i j, i < n → bitE T2 i j = Re.clo n F i j := fun i j hi => by
      rw [hE2 i j hi, show bitE T = F from funext fun i => funext fun j => hT.out i j]; rfl
    have E3 := (E.step hb).masks X2 (by omega) (maskCells T2)
    have hbel := push E3.bel (.cells (zeroCells n) 3)
    have YB : ((w2.setRow w1.heap.size (maskCells T2)).alloc (.cells (zeroCells n) 3)).heap[w1.heap.size]? = some (.cells (maskCells T2) 79 (0, 0)) := by
      rw [heap_alloc_old _ _ (by simp; omega)]; exact Y2
    have RB : ((w2.setRow w1.heap.size (maskCells T2)).alloc (.cells (zeroCells n) 3)).heap[w2.heap.size]? = some (.cells (cellsOf (clsUp n F 0)) 3 (0, 0)) := by
      have := heap_alloc_new (w2.setRow w1.heap.size (maskCells T2)) (.cells (zeroCells n) 3)
      rw [size_setRow] at this
      rw [this, clsUp_zero]
      simp [zeroCells, cellsOf]
    have hmk := run_make_ints n (by omega)
    clear E E3 hb hE2 X Y
    replace hG := Lib.hid hG
    replace hM2 := Lib.hid hM2
    replace YB := Lib.hid YB
    replace RB := Lib.hid RB
    go_wp2_with (refine wpList_store_row rfl 79 _ _ rfl w1.heap.size _ rfl rfl _ _ X2 (hi.out _ hM2.out) (hsz.out _ _ hM2.out hM.out) (mask_one _) ?_)
    clear X2 Y2 hmk
    go_loopw [25] (fun v wr => ∃ i : Nat, i ≤ n ∧ v = .int .i64 i ∧ wr.heap[w2.heap.size]? = some (.cells (cellsOf (clsUp n F i)) 3 (0, 0)) ∧ wr.heap[w1.heap.size]? = some (.cells (maskCells T2) 79 (0, 0)) ∧ Below w.heap.size w wr) (fun v _ => n - (intOf v).toNat)
    case atStart => exact ⟨0, Nat.zero_le _, rfl, RB.out, YB.out, hbel⟩
    case round =>
      clear hbel
      obtain ⟨i, hin, rfl, hO, hY, hbel⟩ := hrel
      by_cases hlt : i < n
      · have ci := block_cell hO (k := i) (by rw [clsUp_length]; exact hlt)
        have fi := frozen_of_row wr w2.heap.size i _ 3 hO
        have hO1 := block_set hO i (i : Int)
        have hY1 := (heap_setCell_other wr ⟨w2.heap.size, i, none⟩ w1.heap.size (.int .i64 (i : Int)) (by simp; omega)).trans hY
        have hb1 := hbel.setCell (p := ⟨w2.heap.size, i, none⟩) (by simp; omega) (.int .i64 (i : Int))
        obtain ⟨wo, hwo⟩ : ∃ wo : World, wo = wr := ⟨_, rfl⟩
        subst hwo
        replace hO := Lib.hid hO
        replace hY := Lib.hid hY
        replace hO1 := Lib.hid hO1
        replace hY1 := Lib.hid hY1
        go_wp2
        clear ci fi
        go_loopw [33] (fun v wr => ∃ j : Nat, j ≤ i ∧ v = .int .i64 j ∧ (∀ k, k < j → (Re.clo n F i k && Re.clo n F k i) = false) ∧ wr.heap[w2.heap.size]? = some (.cells (cellsOf ((clsUp n F i).set i (i : Int))) 3 (0, 0)) ∧ wr.heap[w1.heap.size]? = some (.cells (maskCells T2) 79 (0, 0)) ∧ Below w.heap.size w wr) (fun v _ => i - (intOf v).toNat)
        case atStart => exact ⟨0, Nat.zero_le _, rfl, fun k hk => absurd hk (Nat.not_lt_zero _), hO1.out, hY1.out, hb1⟩
        case round =>
          clear hO hY hO1 hY1 hbel hb1
          obtain ⟨j, hji, rfl, hno, hO, hY, hbel⟩ := hrel
          by_cases hlj : j < i
          · have c1 := mask_cell hY (k := i) (by have := hM2.out.1; omega)
            have c2 := mask_cell hY (k := j) (by have := hM2.out.1; omega)
            have i24 : (i : Int) < 24 := by omega
            have j24 : (j : Int) < 24 := by omega
            have t1 := shr_test (hM2.out.get i) j
            have t2 := shr_test (hM2.out.get j) i
            rw [show (T2.getD i 0).testBit j = Re.clo n F i j from hG.out i j hlt] at t1
            rw [show (T2.getD j 0).testBit i = Re.clo n F j i from hG.out j i (by omega)] at t2
            generalize T2.getD i 0 = A1 at *
            generalize T2.getD j 0 = A2 at *
            have ci := block_cell hO (k := i) (by rw [List.length_set, clsUp_length]; exact hlt)
            have fi := frozen_of_row wr w2.heap.size i _ 3 hO
            cases hb1 : Re.clo n F i j <;> cases hb2 : Re.clo n F j i
            case true.true =>
              have hcn := Lib.hid (show Re.cname n F i = j from first_hit hlj hno (by rw [hb1, hb2]; rfl))
              have hO1 := Lib.hid (block_set hO i (j : Int))
              have hY1 := Lib.hid ((heap_setCell_other wr ⟨w2.heap.size, i, none⟩ w1.heap.size (.int .i64 (j : Int)) (by simp; omega)).trans hY)
              rw [hb1] at t1
              rw [hb2] at t2
              replace hO := Lib.hid hO
              replace hY := Lib.hid hY
              replace hno := Lib.hid hno
              clear hb1 hb2
              go_wp2
              go_roundw
              case rel =>
                refine ⟨i + 1, by omega, by go_num, ?_, hY1.out, hbel.setCell (p := ⟨w2.heap.size, i, none⟩) (by simp; omega) _⟩
                have := hO1.out
                rw [List.set_set, ← hcn.out, clsUp_set] at this
                rw [← hcn.out]
                exact this
              case measure => simp [intOf]; omega
            all_goals
              have hno' := Lib.hid (show ∀ k, k < j + 1 → (Re.clo n F i k && Re.clo n F k i) = false from fun k hk => by
                by_cases e : k = j
                · subst e; rw [hb1, hb2]; rfl
                · exact hno k (by omega))
              rw [hb1] at t1
              rw [hb2] at t2
              replace hO := Lib.hid hO
              replace hY := Lib.hid hY
              clear hb1 hb2 hno
              go_wp2
              go_roundw
              case rel => exact ⟨j + 1, by omega, by go_num, hno'.out, hO.out, hY.out, hbel⟩
              case measure => simp [intOf]; omega
          · obtain rfl : j = i := by omega
            have hcn := Lib.hid (show Re.cname n F j = j from first_none hno)
            replace hO := Lib.hid hO
            replace hY := Lib.hid hY
            clear hno
            go_wp2
            go_roundw
            case rel =>
              refine ⟨j + 1, by omega, by go_num, ?_, hY.out, hbel⟩
              have := hO.out
              rw [← clsUp_set, hcn.out]
              exact this
            case measure => simp [intOf]; omega
      · obtain rfl : i = n := by omega
        have hown := own_of_block hO (B := w.heap.size) (n := i) (by omega) (clsUp_length _ _ _).symm (by rw [clsUp_length]; unfold maxLen; omega)
        rw [clsUp_all] at hown
        replace hO := Lib.hid hO
        replace hY := Lib.hid hY
        go_wp2
        go_ret2
        exact .ok hr.out rfl hown hbel

end Go.Proofs.YtiebknfmmanbiaaDoor
