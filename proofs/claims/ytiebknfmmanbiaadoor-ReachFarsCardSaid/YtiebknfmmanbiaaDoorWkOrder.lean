/- The call reach.Order: an order of a relation's things, or that there is none. Condition: rows that lie as lists of ints. -/
import Derived.Test.YtiebknfmmanbiaaDoorWkClasses
import Derived.Test.YtiebknfmmanbiaaDoorOrdPlain
import Derived.Test.YtiebknfmmanbiaaDoorApp2
import Derived.Test.YtiebknfmmanbiaaDoorRefClosed
import Derived.Laws.BitsAllLaws
import Derived.WalkMore
namespace Go.Proofs.YtiebknfmmanbiaaDoor
open Go.RowKit

namespace M
/-- An order of the things: the least one that waits for none, again and again. -/
def order (x : Arr) : Except Int (List Int) :=
  if relFault x = 0 then (if (Re.ordK (relN x) (relE x) (relN x)).length = relN x then .ok (ordL (relN x) (relE x) (relN x)) else .error 9) else .error (relFault x)
end M

theorem ordL_length {n k : Nat} {F : Nat → Nat → Bool} (h : Re.Full n F k) : (M.ordL n F k).length = k := by
  unfold M.ordL; rw [List.length_map, h.len]
theorem shr_none {m : Nat} (h : m < 4294967296) (k : Nat) : (bits .and .u32 ((m : Int) / 2 ^ k) 1 == 0) = !m.testBit k := by
  rw [shr_and h]; cases m.testBit k <;> rfl
theorem pow_in {k : Nat} (h : k ≤ 24) : 2 ^ k ≤ 16777216 := Nat.le_trans (Nat.pow_le_pow_right (by decide) h) (by decide)
theorem u32_pow {k : Nat} (h : k ≤ 24) : IntKind.u32.wrap ((2 : Int) ^ k) = (2 : Int) ^ k := by
  have := u32_in (2 ^ k) (Nat.lt_of_le_of_lt (pow_in h) (by decide))
  simpa using this
theorem u32_pow_sub {k : Nat} (h : k ≤ 24) : IntKind.u32.wrap ((2 : Int) ^ k - 1) = ((2 ^ k - 1 : Nat) : Int) := by
  have p := Nat.two_pow_pos k
  have := u32_in (2 ^ k - 1) (Nat.lt_of_le_of_lt (Nat.sub_le _ _) (Nat.lt_of_le_of_lt (pow_in h) (by decide)))
  rw [← this]
  congr 1
  rw [Int.natCast_sub p]; simp
theorem andNot_pow {l i : Nat} (hl : l < 4294967296) (hi : i ≤ 24) : bits .andNot .u32 (l : Int) ((2 : Int) ^ i) = ((l &&& (4294967295 - 2 ^ i) : Nat) : Int) := by
  have := Go.u32_andNot_nat l (2 ^ i) hl (Nat.lt_of_le_of_lt (pow_in hi) (by decide))
  rw [← this]; simp
theorem out_bit {l i : Nat} (hl : l < 4294967296) (hi : i ≤ 24) (hb : l.testBit i = true) :
    (∀ j, (l &&& (4294967295 - 2 ^ i)).testBit j = (l.testBit j && !decide (j = i))) ∧ (l &&& (4294967295 - 2 ^ i)) < l := by
  have hp : 2 ^ i < 4294967296 := Nat.lt_of_le_of_lt (pow_in hi) (by decide)
  have h1 : ∀ j, (l &&& (4294967295 - 2 ^ i)).testBit j = (l.testBit j && !decide (j = i)) := fun j => by
    rw [andNot_bit hl hp, Nat.testBit_two_pow]
    congr 2
    exact decide_eq_decide.2 ⟨fun h => h.symm, fun h => h.symm⟩
  refine ⟨h1, Nat.lt_of_le_of_ne Nat.and_le_left fun e => ?_⟩
  have := h1 i
  rw [e, hb] at this
  simp at this

set_option maxRecDepth 20000 in
set_option maxHeartbeats 16000000 in
theorem order_any (ch : Bool) (a b : Option Addr) (s d : List Int) (m c n z : Nat) (w : World) (hs : Row w a s) (hd : Row w b d) (ls : s.length ≤ maxLen) (ld : d.length ≤ maxLen) (em : m = s.length) (en : n = d.length) :
    Calls Tryd.prog 36 #[arrV ch a m c b n z] w (ListPost (M.order ⟨ch, s, d⟩) w) := by
  subst em
  subst en
  have hread := fun w h1 h2 => read_any ch a b s d _ c _ z w h1 h2 ls ld rfl rfl
  have E := (((Env.start w).addRow hd).addRow hs).box ch a s.length c b d.length z
  have hi : ∀ T, Masks T → (Tryd.prog.info? 79).map (·.size) = some (maskCells T).size := fun T h => by rw [mask_size, h.1]; exact Tryd.infoThings
  have hsz : ∀ T U, Masks T → Masks U → (maskCells U).size = (maskCells T).size := fun T U h k => by rw [mask_size, mask_size, h.1, k.1]
  replace hi := Lib.hid hi
  replace hsz := Lib.hid hsz
  replace hread := Lib.hid hread
  by_cases hf : M.relFault ⟨ch, s, d⟩ = 0
  case neg =>
    have hr := Lib.hid (show M.order ⟨ch, s, d⟩ = .error (M.relFault ⟨ch, s, d⟩) from if_neg hf)
    replace hf := Lib.hid hf
    go_enter Tryd.func36, Tryd.ntmps36
    go_wp2_with fail
    go_step3
    go_wp2_with fail
    refine (hread.out _ (E.getRow 1 rfl) (E.getRow 2 rfl)).mono ?_
    intro e w1 hp
    obtain ⟨T, rfl, hM⟩ := hp.2.1 hf.out
    have hb := hp.2.2
    clear hp
    replace E := E.step hb
    generalize M.relFault ⟨ch, s, d⟩ = nn at *
    have X := heap_alloc_new w1 (.cells (maskCells zeros24) 79)
    rw [zeros_cells] at X
    replace hM := Lib.hid hM
    have E2 := E.step (below_setRow (push (start w1) (.cells (maskCells zeros24) 79)) w1.heap.size (maskCells T) (Nat.le_refl _))
    rw [zeros_cells] at E2
    go_wp2_with (refine wpList_store_row rfl 79 _ _ rfl w1.heap.size _ rfl rfl _ _ X (hi.out _ hM.out) (hsz.out _ _ hM.out masks_zero) (mask_one _) ?_)
    (try rw [Exit.noGoto_ret])
    go_ret2
    exact .error hr.out rfl E2.bel
  case pos =>
    have hr := show M.order ⟨ch, s, d⟩ = (if (Re.ordK (M.relN ⟨ch, s, d⟩) (M.relE ⟨ch, s, d⟩) (M.relN ⟨ch, s, d⟩)).length = M.relN ⟨ch, s, d⟩ then .ok (M.ordL (M.relN ⟨ch, s, d⟩) (M.relE ⟨ch, s, d⟩) (M.relN ⟨ch, s, d⟩)) else .error 9) from if_pos hf
    generalize M.order ⟨ch, s, d⟩ = RR at *
    replace hf := Lib.hid hf
    replace hr := Lib.hid hr
    go_enter Tryd.func36, Tryd.ntmps36
    go_wp2_with fail
    go_step3
    go_wp2_with fail
    refine (hread.out _ (E.getRow 1 rfl) (E.getRow 2 rfl)).mono ?_
    intro e w1 hp
    obtain ⟨T, rfl, hM, hT, hn⟩ := hp.1 hf.out
    have hb := hp.2.2
    clear hp
    replace E := E.step hb
    have n1 : w.heap.size < w1.heap.size := (E.getBox 0 rfl).lt
    clear hb hf
    generalize M.relE ⟨ch, s, d⟩ = F at *
    generalize M.relN ⟨ch, s, d⟩ = n at *
    have X := heap_alloc_new w1 (.cells (maskCells zeros24) 79)
    have Y := setRow_heap _ _ _ (maskCells T) _ _ X
    replace E := E.step (below_setRow (push (start w1) (.cells (maskCells zeros24) 79)) w1.heap.size (maskCells T) (Nat.le_refl _))
    rw [zeros_cells] at E X Y
    have hbel := E.bel
    clear E
    replace hM := Lib.hid hM
    replace hT := Lib.hid hT
    obtain ⟨B, hB⟩ : ∃ B, B = w1.heap.size + 1 := ⟨_, rfl⟩
    have SZ : B ≤ ((w1.alloc (.cells #[.int .u32 0, .int .u32 0, .int .u32 0, .int .u32 0, .int .u32 0, .int .u32 0, .int .u32 0, .int .u32 0, .int .u32 0, .int .u32 0, .int .u32 0, .int .u32 0, .int .u32 0, .int .u32 0, .int .u32 0, .int .u32 0, .int .u32 0, .int .u32 0, .int .u32 0, .int .u32 0, .int .u32 0, .int .u32 0, .int .u32 0, .int .u32 0] 79)).setRow w1.heap.size (maskCells T)).heap.size := by rw [hB]; simp
    have hgB : w1.heap.size < B := by omega
    have hwB : w.heap.size ≤ B := by omega
    replace SZ := Lib.hid SZ
    replace hB := Lib.hid hB
    replace hbel := Lib.hid hbel
    replace Y := Lib.hid Y
    have q5 := u32_pow hn
    have q6 := u32_pow_sub hn
    have i2 : (n : Int) ≤ 32 := by omega
    have hL0 := Lib.hid (left_start (n := n) F)
    have hF0 : Re.Full n F 0 := fun m hm => absurd hm (Nat.not_lt_zero _)
    have hl0 : 2 ^ n - 1 < 4294967296 := Nat.lt_of_le_of_lt (Nat.sub_le _ _) (Nat.lt_of_le_of_lt (pow_in hn) (by decide))
    generalize 2 ^ n - 1 = l0 at *
    replace hF0 := Lib.hid hF0
    replace hl0 := Lib.hid hl0
    go_wp2_with (refine wpList_store_row rfl 79 _ _ rfl w1.heap.size _ rfl rfl _ _ X (hi.out _ hM.out) (hsz.out _ _ hM.out masks_zero) (mask_one _) ?_)
    clear X q5 q6 i2
    go_step3
    go_wp2
    go_loopw [7, 8] (fun v7 v8 wr => ∃ k l : Nat, v7 = .int .u32 l ∧ Left n F k l ∧ Re.Full n F k ∧ l < 4294967296 ∧ Own wr B v8 (M.ordL n F k) ∧ wr.heap[w1.heap.size]? = some (.cells (maskCells T) 79 (0, 0)) ∧ Below w.heap.size w wr ∧ B ≤ wr.heap.size) (fun v7 _ _ => (intOf v7).toNat)
    case atStart => exact ⟨0, l0, rfl, hL0.out, hF0.out, hl0.out, Own.nil _ _, Y.out, hbel.out, SZ.out⟩
    case round =>
      clear hL0 hF0 hl0 hbel Y SZ
      obtain ⟨k, l, rfl, hL, hFu, hl, hown, hY, hbel, hBs⟩ := hrel
      by_cases h0 : l = 0
      · subst h0
        obtain rfl := left_none hL hFu
        have hr2 := hr.out
        rw [if_pos hFu.len] at hr2
        replace hr2 := Lib.hid hr2
        have t0 : (((0 : Nat) : Int) != 0) = false := rfl
        have ho := hown.low hwB
        replace hown := Lib.hid hown
        replace hY := Lib.hid hY
        clear hL hFu hl hBs
        go_wp2
        (try rw [Exit.noGoto_ret])
        go_ret2
        exact .ok hr2.out rfl ho hbel
      · have hk := left_some hL h0 hl hFu
        have t0 : ((l : Int) != 0) = true := by rw [bne_iff_ne]; omega
        have hlen : (M.ordL n F k).length < 17592186044416 := by rw [ordL_length hFu]; omega
        have hlk := Lib.hid (show k + 1 = (M.ordL n F k).length + 1 by rw [ordL_length hFu])
        obtain ⟨av, cv, rfl, -, -, -⟩ := hown.view
        rw [ordL_length hFu] at hown ⊢
        have hM24 := hM.out.1
        have hmc := fun j (hj : j < n) => mask_cell hY (k := j) (by rw [hM24]; omega)
        have hsh := fun j i => shr_test (hM.out.get j) i
        have hbt : ∀ j i, (T.getD j 0).testBit i = F j i := fun j i => hT.out j i
        replace hmc := Lib.hid hmc
        replace hsh := Lib.hid hsh
        replace hbt := Lib.hid hbt
        replace hown := Lib.hid hown
        replace hY := Lib.hid hY
        replace hL := Lib.hid hL
        replace hFu := Lib.hid hFu
        clear hM24
        go_wp2
        clear t0
        go_loop [7, 8, 27] (fun v7 v8 v => ∃ i : Nat, i ≤ n ∧ v7 = .int .u32 (l : Int) ∧ v8 = .slice av k cv ∧ v = .int .i64 i ∧ ∀ j, j < i → Re.free n F (Re.ordK n F k) j = false) (fun _ _ v => n - (intOf v).toNat)
        case atStart => exact ⟨0, Nat.zero_le _, rfl, rfl, rfl, fun j hj => absurd hj (Nat.not_lt_zero _)⟩
        case round =>
          obtain ⟨i, hin, rfl, rfl, rfl, hno⟩ := hrel
          by_cases hlt : i < n
          · have t1 := shr_none hl i
            have hLi := hL.out i
            cases hbi : l.testBit i
            · -- gone
              rw [hbi] at t1 hLi
              have hmem : i ∈ Re.ordK n F k := Classical.byContradiction fun h => by
                have := of_decide_eq_false hLi.symm
                exact this ⟨hlt, h⟩
              have hno' := Lib.hid (show ∀ j, j < i + 1 → Re.free n F (Re.ordK n F k) j = false from fun j hj => by
                by_cases e : j = i
                · subst e; exact free_out hmem
                · exact hno j (by omega))
              replace hno := Lib.hid hno
              clear hLi hmem
              replace hbi := Lib.hid hbi
              go_wp2
              go_roundw
              case rel => exact ⟨i + 1, hlt, rfl, rfl, num1 i, hno'.out⟩
              case measure => exact meas1 hlt
            · rw [hbi] at t1 hLi
              have hni : (Re.ordK n F k).contains i = false := by
                have := (of_decide_eq_true hLi.symm).2
                rw [Bool.eq_false_iff]; intro h; exact this (by simpa using h)
              replace hno := Lib.hid hno
              have hbi' := Lib.hid hbi
              clear hLi hbi
              replace hni := Lib.hid hni
              go_wp2
              clear t1
              go_loop [10, 36] (fun v10 v36 => ∃ q : Nat, q ≤ n ∧ v36 = .int .i64 q ∧ v10 = .bool (frUp F (Re.ordK n F k) i q)) (fun _ v => n - (intOf v).toNat)
              case atStart => exact ⟨0, Nat.zero_le _, rfl, rfl⟩
              case round =>
                obtain ⟨q, hqn, rfl, rfl⟩ := hrel
                by_cases hlq : q < n
                · have t2 := shr_test hl q
                  have hLq := hL.out q
                  have hs := frUp_succ F (Re.ordK n F k) i q
                  have c1 := hmc.out q hlq
                  have t3 := hsh.out q i
                  rw [hbt.out q i] at t3
                  have q24 : (q : Int) < 24 := by omega
                  generalize frUp F (Re.ordK n F k) i q = fq at *
                  cases hbq : l.testBit q
                  · rw [hbq] at t2 hLq
                    have hmem : (Re.ordK n F k).contains q = true := by
                      have : q ∈ Re.ordK n F k := Classical.byContradiction fun h => (of_decide_eq_false hLq.symm) ⟨hlq, h⟩
                      simpa using this
                    rw [hmem] at hs
                    simp only [Bool.not_true, Bool.false_and, Bool.not_false, Bool.and_true] at hs
                    replace hs := Lib.hid hs
                    replace hmem := Lib.hid hmem
                    replace hbq := Lib.hid hbq
                    clear hLq c1 t3
                    go_wp2
                    go_roundw
                    case rel => exact ⟨q + 1, hlq, num1 q, by rw [hs.out]⟩
                    case measure => exact meas1 hlq
                  · rw [hbq] at t2 hLq
                    have hmem : (Re.ordK n F k).contains q = false := by
                      have := (of_decide_eq_true hLq.symm).2
                      rw [Bool.eq_false_iff]; intro h; exact this (by simpa using h)
                    rw [hmem] at hs
                    replace hmem := Lib.hid hmem
                    replace hbq := Lib.hid hbq
                    clear hLq
                    generalize T.getD q 0 = A1 at *
                    cases hqi : F q i
                    · rw [hqi] at hs t3
                      simp only [Bool.not_false, Bool.and_false, Bool.not_false, Bool.and_true] at hs
                      replace hs := Lib.hid hs
                      replace hqi := Lib.hid hqi
                      go_wp2
                      go_roundw
                      case rel => exact ⟨q + 1, hlq, num1 q, by rw [hs.out]⟩
                      case measure => exact meas1 hlq
                    · rw [hqi] at hs t3
                      simp only [Bool.not_false, Bool.and_true, Bool.not_true, Bool.and_false] at hs
                      replace hs := Lib.hid hs
                      replace hqi := Lib.hid hqi
                      go_wp2
                      go_roundw
                      case rel => exact ⟨q + 1, hlq, num1 q, by rw [hs.out]⟩
                      case measure => exact meas1 hlq
                · obtain rfl : q = n := by omega
                  have hfa := frUp_all (n := q) (E := F) hni.out
                  generalize frUp F (Re.ordK q F k) i q = fq at *
                  cases hfr : Re.free q F (Re.ordK q F k) i
                  · rw [hfr] at hfa
                    subst hfa
                    have hno' := Lib.hid (show ∀ j, j < i + 1 → Re.free q F (Re.ordK q F k) j = false from fun j hj => by
                      by_cases e : j = i
                      · subst e; exact hfr
                      · exact hno.out j (by omega))
                    replace hfr := Lib.hid hfr
                    go_wp2
                    go_roundw
                    case rel => exact ⟨i + 1, hlt, rfl, rfl, num1 i, hno'.out⟩
                    case measure => exact meas1 hlt
                  · rw [hfr] at hfa
                    subst hfa
                    have hnx := next_hit hlt hno.out hfr
                    have hob := out_bit hl (show i ≤ 24 by omega) hbi'.out
                    have q7 := u32_pow (k := i) (by omega)
                    have q8 := andNot_pow hl (show i ≤ 24 by omega)
                    have i2 : (i : Int) ≤ 32 := by omega
                    have hst := ordL_step hlt hnx
                    have hLs := left_step hL.out hlt hnx hob.1
                    have hFs := full_next hFu.out hlt hnx
                    have hls := hob.2
                    generalize l &&& (4294967295 - 2 ^ i) = l' at *
                    replace hfr := Lib.hid hfr
                    replace hnx := Lib.hid hnx
                    replace hob := Lib.hid hob
                    replace hst := Lib.hid hst
                    replace hLs := Lib.hid hLs
                    replace hFs := Lib.hid hFs
                    replace hls := Lib.hid hls
                    go_wp2_with (refine app_int2 rfl (.tmp 55) (.tmp 57) rfl B _ (M.ordL q F k) (i : Int) rfl hown.out rfl hlen hBs (k + 1) hlk.out ?_; intro a' c' w' ho' hb' hs')
                    go_roundw
                    case rel => exact ⟨k + 1, l', rfl, hLs.out, hFs.out, Nat.lt_trans hls.out hl, by rw [hst.out]; exact ho', (hb'.block w1.heap.size hgB).trans hY.out, hbel.trans (hb'.mono hwB), by omega⟩
                    case measure => (have := hls.out; simp [intOf]; omega)
          · obtain rfl : i = n := by omega
            have hnx := next_none hno
            have hr2 := hr.out
            rw [if_neg (ord_short hFu.out hk hnx)] at hr2
            replace hr2 := Lib.hid hr2
            replace hnx := Lib.hid hnx
            replace hno := Lib.hid hno
            go_wp2
            (try rw [Exit.noGoto_ret])
            go_ret2
            exact .error hr2.out rfl hbel

end Go.Proofs.YtiebknfmmanbiaaDoor
