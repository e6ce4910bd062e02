/- The call things.closed: closed by way of each thing in turn. Condition: 24 masks. -/
import Derived.Test.YtiebknfmmanbiaaDoorMask
import Derived.RegionTactic
import Derived.BigRegion
namespace Go.Proofs.YtiebknfmmanbiaaDoor
open Go.RowKit

theorem zeros_cells : maskCells zeros24 = #[.int .u32 0, .int .u32 0, .int .u32 0, .int .u32 0, .int .u32 0, .int .u32 0, .int .u32 0, .int .u32 0, .int .u32 0, .int .u32 0, .int .u32 0, .int .u32 0, .int .u32 0, .int .u32 0, .int .u32 0, .int .u32 0, .int .u32 0, .int .u32 0, .int .u32 0, .int .u32 0, .int .u32 0, .int .u32 0, .int .u32 0, .int .u32 0] := rfl

theorem below_setRow {B : Nat} {w w' : World} (h : Below B w w') (g : Nat) (cs : Array Value) (hg : B ≤ g) : Below B w (w'.setRow g cs) :=
  ⟨h.os, h.tape, h.output, by simpa using h.size, fun i hi => (setRow_other w' g i cs (by omega)).trans (h.block i hi)⟩

set_option maxHeartbeats 4000000 in
theorem closed_any (T : List Nat) (n : Nat) (w : World) (hT : Masks T) (hn : n ≤ 24) :
    Calls Tryd.prog 72 #[.agg (maskCells T), .int .i64 n] w fun e w' => ∃ T', e = .returned (.agg (maskCells T')) ∧ Masks T' ∧ (∀ i j, i < n → bitE T' i j = Re.wars (bitE T) n i j) ∧ Below w.heap.size w w' := by
  go_enter Tryd.func72, Tryd.ntmps72
  go_wp2
  go_loopw [8] (fun v wr => ∃ (k : Nat) (T' : List Nat), k ≤ n ∧ v = .int .i64 k ∧ Masks T' ∧ (∀ i j, i < n → bitE T' i j = Re.wars (bitE T) k i j) ∧ wr.heap[w.heap.size]? = some (.cells (maskCells T') 79 (0, 0)) ∧
      wr.heap[w.heap.size + 1]? = some (.cells (maskCells zeros24) 79 (0, 0)) ∧ Below w.heap.size w wr) (fun v _ => n - (intOf v).toNat)
  case atStart =>
    refine ⟨0, T, Nat.zero_le _, rfl, hT, fun i j _ => rfl, ?_, ?_, ((Below.refl _ w).alloc (Nat.le_refl _) _).alloc (by simp) _⟩
    · exact heap_alloc2_old _ _ _
    · rw [zeros_cells]; exact heap_alloc2_new _ _ _
  case round =>
    obtain ⟨k, T', hk, rfl, hM, hE, hh, hz, hbel⟩ := hrel
    replace hM := Lib.hid hM
    replace hE := Lib.hid hE
    by_cases hlt : k < n
    · obtain ⟨wo, hwo⟩ : ∃ wo : World, wo = wr := ⟨_, rfl⟩
      subst hwo
      replace hh := Lib.hid hh
      replace hz := Lib.hid hz
      go_wp2
      go_loopw [12] (fun v wr => ∃ (m : Nat) (T' : List Nat), m ≤ n ∧ v = .int .i64 m ∧ Masks T' ∧ (∀ i j, i < n → bitE T' i j = if i < m then Re.wars (bitE T) (k + 1) i j else Re.wars (bitE T) k i j) ∧ wr.heap[w.heap.size]? = some (.cells (maskCells T') 79 (0, 0)) ∧
          wr.heap[w.heap.size + 1]? = some (.cells (maskCells zeros24) 79 (0, 0)) ∧ Below w.heap.size w wr) (fun v _ => n - (intOf v).toNat)
      case atStart => exact ⟨0, T', Nat.zero_le _, rfl, hM.out, fun i j hi => by rw [if_neg (Nat.not_lt_zero _)]; exact hE.out i j hi, hh.out, hz.out, hbel⟩
      case round =>
        clear hh hz hbel hM hE T'
        obtain ⟨m, T', hm, rfl, hM, hE, hh, hz, hbel⟩ := hrel
        by_cases hlm : m < n
        · obtain ⟨s1, s2⟩ := wars_step hM.1 hn hlm hlt hE
          have c1 := mask_cell hh (k := m) (by have := hM.1; omega)
          have c2 := mask_cell hh (k := k) (by have := hM.1; omega)
          have f1 := frozen_of_row wr w.heap.size m _ 79 hh
          have b1 := hM.get m
          have b2 := hM.get k
          have hset := mask_set hh m (T'.getD m 0 ||| T'.getD k 0)
          have hM2 := hM.set m _ (or_lt32 b1 b2)
          have ht := shr_test b1 k
          have ho := bits_or32 b1 b2
          have hbit : bitE T' m k = (T'.getD m 0).testBit k := rfl
          rw [← hbit] at ht
          replace hbit := Lib.hid hbit
          generalize T'.getD m 0 = A at *
          generalize T'.getD k 0 = B at *
          replace hM := Lib.hid hM
          replace hM2 := Lib.hid hM2
          replace hE := Lib.hid hE
          replace hh := Lib.hid hh
          replace hz := Lib.hid hz
          replace hset := Lib.hid hset
          cases hb : bitE T' m k with
          | true =>
            rw [hb] at ht
            have s := Lib.hid (s1 hb)
            clear s1 s2
            replace hb := Lib.hid hb
            go_wp2
            go_region
            go_wp2
            go_roundw
            case rel =>
              refine ⟨m + 1, _, by omega, by go_num, hM2.out, s.out, ?_, ?_, (hbel.setCell (p := ⟨w.heap.size, m, none⟩) (Nat.le_refl _) _).drew⟩
              · exact hset.out
              · have := Below.heap_setCell wr ⟨w.heap.size, m, none⟩ (.int .u32 ((A ||| B : Nat) : Int)) (w.heap.size + 1) (by simp)
                exact this.trans hz.out
            case measure => simp [intOf]; omega
          | false =>
            rw [hb] at ht
            have s := Lib.hid (s2 hb)
            clear s1 s2
            replace hb := Lib.hid hb
            go_wp2
            go_roundw
            case rel => exact ⟨m + 1, _, by omega, by go_num, hM.out, s.out, hh.out, hz.out, hbel⟩
            case measure => simp [intOf]; omega
        · obtain rfl : m = n := by omega
          have s := Lib.hid (show ∀ i j, i < m → bitE T' i j = Re.wars (bitE T) (k + 1) i j from fun i j hi => by rw [hE i j hi, if_pos hi])
          replace hM := Lib.hid hM
          replace hh := Lib.hid hh
          replace hz := Lib.hid hz
          clear hE
          go_wp2
          go_roundw
          case rel => exact ⟨k + 1, T', by omega, by go_num, hM.out, s.out, hh.out, hz.out, hbel⟩
          case measure => simp [intOf]; omega
    · obtain rfl : k = n := by omega
      have hs := mask_size T'
      have hl : T'.length = 24 := hM.out.1
      have hi : (Tryd.prog.info? 79).map (·.size) = some (maskCells T').size := by rw [hs, hl]; exact Tryd.infoThings
      have hsz : (maskCells zeros24).size = (maskCells T').size := by rw [hs, hl]; rfl
      have h1 := mask_one T'
      replace hs := Lib.hid hs
      replace hl := Lib.hid hl
      go_wp2_with (first
        | (refine wpList_load_row rfl 79 _ rfl w.heap.size rfl _ _ _ _ hh Tryd.underlying79 rfl hi ?_)
        | (refine wpList_store_row rfl 79 _ _ rfl (w.heap.size + 1) _ rfl rfl _ _ hz hi hsz h1 ?_))
      refine bodyPost_ret (v := .agg (maskCells T')) (results_cell_row rfl _ _ (w.heap.size + 1) 79 _ (0, 0) _ rfl (setRow_heap _ _ _ _ _ _ hz) Tryd.underlying79 rfl hi) rfl ?_
      exact ⟨T', rfl, hM.out, hE.out, below_setRow hbel _ _ (by omega)⟩

end Go.Proofs.YtiebknfmmanbiaaDoor
