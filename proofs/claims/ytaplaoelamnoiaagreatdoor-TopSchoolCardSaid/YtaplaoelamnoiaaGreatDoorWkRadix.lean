/- The calls radix.Value and radix.Digits. Condition: rows that lie as lists of ints of 64 bits. -/
import Derived.Test.YtaplaoelamnoiaaGreatDoorBd13
import Derived.Test.YtaplaoelamnoiaaGreatDoorOwnAt
import Derived.Test.YtaplaoelamnoiaaGreatDoorWkTell
import Derived.Test.YtaplaoelamnoiaaGreatDoorBd01
import Derived.Test.YtaplaoelamnoiaaGreatDoorBd04
namespace Go.Proofs.YtaplaoelamnoiaaGreatDoor
open Go.RowKit

namespace M
/-- The number that the first digits are. -/
def radV (base ds : List Int) : Nat → Int
  | 0 => 0
  | i + 1 => wrap64 (wrap64 (radV base ds i * base.getD i 0) + ds.getD i 0)
/-- What is left of a number, and its last digits. -/
def digs : List Int → Int → List Int × Int
  | [], n => ([], n)
  | b :: r, n => if b = 0 then ((digs r n).2 :: (digs r n).1, 0) else (wrap64 ((digs r n).2 - wrap64 (b * floor (digs r n).2 b)) :: (digs r n).1, floor (digs r n).2 b)
end M
theorem digs_len : ∀ (base : List Int) (n : Int), (M.digs base n).1.length = base.length
  | [], n => rfl
  | b :: r, n => by
    unfold M.digs
    split <;> simp [digs_len r n]

set_option maxRecDepth 20000 in
set_option maxHeartbeats 4000000 in
theorem radV_any (a b : Option Addr) (c k : Nat) (base ds : List Int) (w : World) (hb : Row w a base) (hd : Row w b ds) (hl : base.length = ds.length) (h4 : base.length ≤ 4096) :
    Calls Tryz.prog 202 #[.slice a base.length c, .slice b ds.length k] w fun e w' => e = .returned (.tuple #[.int .i64 (M.radV base ds base.length), .nilIface]) ∧ w' = w := by
  obtain ⟨nl, hnl⟩ : ∃ nl, nl = base.length := ⟨_, rfl⟩
  rw [← hl, ← hnl]
  rw [← hnl] at h4
  have e0 : decide (4096 < ((nl : Nat) : Int)) = false := decide_eq_false (by omega)
  have e1 : (((nl : Nat) : Int) != ((nl : Nat) : Int)) = false := by simp
  replace hnl := Lib.hid hnl
  replace hl := Lib.hid hl
  replace hb := Lib.hid hb
  replace hd := Lib.hid hd
  go_enter Tryz.func202, Tryz.ntmps202
  go_wp2
  go_loopw [21, 6] (fun v u wr => ∃ i : Nat, v = .int .i64 i ∧ i ≤ nl ∧ u = .int .i64 (M.radV base ds i) ∧ wr = w) (fun v _ _ => nl - (intOf v).toNat)
  case atStart => exact ⟨0, rfl, Nat.zero_le _, rfl, rfl⟩
  case round =>
    obtain ⟨i, rfl, hi, rfl, hw⟩ := hrel
    subst hw
    by_cases hlt : i < nl
    · obtain ⟨b1, o1, rfl, c1⟩ := hb.out i (by rw [← hnl.out]; exact hlt)
      obtain ⟨b2, o2, rfl, c2⟩ := hd.out i (by rw [← hl.out, ← hnl.out]; exact hlt)
      have hst : M.radV base ds (i + 1) = wrap64 (wrap64 (M.radV base ds i * base.getD i 0) + ds.getD i 0) := rfl
      generalize base.getD i 0 = x at *
      generalize ds.getD i 0 = y at *
      generalize M.radV base ds i = r at *
      have z0 : (0 : Int) ≤ ((i : Nat) : Int) := by omega
      have z1 : ((i : Nat) : Int) < ((nl : Nat) : Int) := by omega
      have zz : ((i : Nat) : Int).toNat = i := by simp
      replace hst := Lib.hid hst
      go_wp2
      go_roundw
      case rel => exact ⟨i + 1, by simp, hlt, by rw [hst.out], by first | rfl | trivial⟩
      case measure => simp [intOf]; omega
    · have hie : i = nl := by omega
      subst hie
      have e1 : decide (((i : Nat) : Int) < ((i : Nat) : Int)) = false := decide_eq_false (by omega)
      go_wp2
      go_ret2
      exact ⟨rfl, rfl⟩
theorem digs_64 : ∀ (base : List Int) (n : Int), All64 base → I64 n → I64 (M.digs base n).2
  | [], n, _, h => h
  | b :: r, n, hb, h => by
    have ih := digs_64 r n (fun x hx => hb x (by simp [hx])) h
    unfold M.digs
    by_cases h0 : b = 0
    · rw [if_pos h0]; unfold I64; simp
    · rw [if_neg h0]
      have e : M.tw 4 false false (M.digs r n).2 b = .ok (M.floor (M.digs r n).2 b) := by
        have : M.two 4 (M.digs r n).2 b = .ok (M.floor (M.digs r n).2 b) := if_neg h0
        unfold M.tw
        rw [if_pos rfl, this]
      exact tw_i64 ih (hb b (by simp)) e
theorem rep_set (j : Nat) (v : Int) (l : List Int) : (List.replicate (j + 1) 0 ++ l).set j v = List.replicate j 0 ++ (v :: l) := by
  rw [List.replicate_succ', List.append_assoc, List.set_append_right _ _ (by simp), List.length_replicate, Nat.sub_self]
  rfl

set_option maxRecDepth 20000 in
set_option maxHeartbeats 8000000 in
theorem digits_any (a : Option Addr) (c : Nat) (base : List Int) (n : Int) (w : World) (hb : Row w a base) (h64 : All64 base) (hn : I64 n) (h4 : base.length ≤ 4096) :
    Calls Tryz.prog 153 #[.slice a base.length c, .int .i64 n] w fun e w' => ∃ (g k : Nat), e = .returned (.tuple #[.slice (some ⟨g, 0, none⟩) base.length k, .nilIface]) ∧ w.heap.size ≤ g ∧ Row w' (some ⟨g, 0, none⟩) (M.digs base n).1 ∧ base.length ≤ k ∧ Below w.heap.size w w' := by
  have hmk := run_make_room base.length base.length (Nat.le_refl _) (by omega)
  have hb0 : Below w.heap.size w (w.alloc (.cells (roomCells base.length) 3)) := push (start w) _
  have bO : BoxC w.heap.size ((List.replicate base.length (0 : Int) ++ []).map (Value.int .i64)) (w.alloc (.cells (roomCells base.length) 3)) := by
    have h := boxC_alloc w (roomCells base.length) 3
    have e : (roomCells base.length).toList = ((List.replicate base.length (0 : Int) ++ []).map (Value.int .i64)) := by simp [roomCells]
    rw [e] at h
    exact h
  obtain ⟨W, hWe⟩ : ∃ W : World, W = w.alloc (.cells (roomCells base.length) 3) := ⟨_, rfl⟩
  have sW : w.heap.size < W.heap.size := by rw [hWe]; simp
  rw [← hWe] at hb0 bO
  have hd0 : base.drop base.length = [] := List.drop_length
  obtain ⟨nl, hnl⟩ : ∃ nl, nl = base.length := ⟨_, rfl⟩
  rw [← hnl] at hmk hWe bO hd0 h4
  rw [← hnl]
  have e0 : decide (4096 < ((nl : Nat) : Int)) = false := decide_eq_false (by omega)
  have hWe' := Lib.hid hWe.symm
  replace hWe := Lib.hid hWe
  replace hnl := Lib.hid hnl
  replace hb := Lib.hid hb
  replace h64 := Lib.hid h64
  replace hn := Lib.hid hn
  replace hb0 := Lib.hid hb0
  replace bO := Lib.hid bO
  replace sW := Lib.hid sW
  replace hd0 := Lib.hid hd0
  obtain ⟨D, hD⟩ : ∃ D, D = (M.digs base n).1 := ⟨_, rfl⟩
  rw [← hD]
  replace hD := Lib.hid hD
  go_enter Tryz.func153, Tryz.ntmps153
  go_wp2
  rw [hWe'.out]
  go_loopw [7, 1] (fun v u wr => ∃ j : Nat, v = .int .i64 ((j : Int) - 1) ∧ j ≤ nl ∧ u = .int .i64 (M.digs (base.drop j) n).2 ∧ BoxC w.heap.size ((List.replicate j (0 : Int) ++ (M.digs (base.drop j) n).1).map (Value.int .i64)) wr ∧ Below w.heap.size w wr ∧ w.heap.size < wr.heap.size) (fun v _ _ => (intOf v + 1).toNat)
  case atStart => exact ⟨nl, by simp, Nat.le_refl _, by rw [hd0.out]; rfl, by rw [hd0.out]; exact bO.out, hb0.out, sW.out⟩
  case round =>
    obtain ⟨j, rfl, hj, rfl, hO, hbl, hsz⟩ := hrel
    cases j with
    | zero =>
      rw [List.drop_zero] at hO
      rw [List.replicate_zero, List.nil_append, ← hD.out] at hO
      replace hO := Lib.hid hO
      replace hbl := Lib.hid hbl
      go_wp2
      go_ret2
      refine ⟨w.heap.size, nl, rfl, Nat.le_refl _, fun i hi => ⟨w.heap.size, 0, rfl, ?_⟩, Nat.le_refl _, hbl.out⟩
      have h := (hO.out i (.int .i64 (D.getD i 0)) (by rw [List.getElem?_map, List.getElem?_eq_getElem hi]; simp [hi])).1
      rw [Nat.zero_add]
      exact h
    | succ j =>
      have hjl : j < base.length := by rw [← hnl.out]; omega
      obtain ⟨b1, o1, rfl, c1⟩ := (hb.out.below hbl) j hjl
      have hdr : base.drop j = base.getD j 0 :: base.drop (j + 1) := by rw [List.drop_eq_getElem_cons hjl]; simp [hjl]
      have hb64 : I64 (base.getD j 0) := by
        have : base.getD j 0 = base[j] := by simp [hjl]
        rw [this]; exact h64.out _ (List.getElem_mem hjl)
      have hr64 : I64 (M.digs (base.drop (j + 1)) n).2 := digs_64 _ _ (fun x hx => h64.out x (List.mem_of_mem_drop hx)) hn.out
      have hlenD := digs_len (base.drop (j + 1)) n
      rw [List.length_drop] at hlenD
      have hcell : ((List.replicate (j + 1) (0 : Int) ++ (M.digs (base.drop (j + 1)) n).1).map (Value.int .i64))[j]? = some (.int .i64 0) := by
        rw [List.getElem?_map, List.getElem?_append_left (by simp)]
        simp
      obtain ⟨y0, x0⟩ := hO j _ hcell
      have hputs := fun (W : World) (h : BoxC w.heap.size ((List.replicate (j + 1) (0 : Int) ++ (M.digs (base.drop (j + 1)) n).1).map (Value.int .i64)) W) (v : Int) => h.put j (by simp; omega) (.int .i64 v)
      have hset := fun v : Int => (show ((List.replicate (j + 1) (0 : Int) ++ (M.digs (base.drop (j + 1)) n).1).map (Value.int .i64)).set j (.int .i64 v) = (List.replicate j (0 : Int) ++ (v :: (M.digs (base.drop (j + 1)) n).1)).map (Value.int .i64) by rw [← List.map_set, rep_set])
      have hdig : M.digs (base.drop j) n = if base.getD j 0 = 0 then ((M.digs (base.drop (j + 1)) n).2 :: (M.digs (base.drop (j + 1)) n).1, 0) else (wrap64 ((M.digs (base.drop (j + 1)) n).2 - wrap64 (base.getD j 0 * M.floor (M.digs (base.drop (j + 1)) n).2 (base.getD j 0))) :: (M.digs (base.drop (j + 1)) n).1, M.floor (M.digs (base.drop (j + 1)) n).2 (base.getD j 0)) := by
        rw [hdr]; rfl
      generalize base.getD j 0 = x at *
      generalize (M.digs (base.drop (j + 1)) n).2 = r at *
      generalize (M.digs (base.drop (j + 1)) n).1 = L at *
      have z0 : (0 : Int) ≤ ((j : Nat) : Int) := by omega
      have z1 : ((j : Nat) : Int) < ((nl : Nat) : Int) := by omega
      have zz : ((j : Nat) : Int).toNat = j := by simp
      have zm : ((j + 1 : Nat) : Int) - 1 = ((j : Nat) : Int) := by omega
      rw [zm]
      replace zm := Lib.hid zm
      replace hdr := Lib.hid hdr
      replace hO := Lib.hid hO
      replace hbl := Lib.hid hbl
      replace hputs := Lib.hid hputs
      replace hset := Lib.hid hset
      replace hlenD := Lib.hid hlenD
      replace hcell := Lib.hid hcell
      by_cases hx : x = 0
      · rw [if_pos hx] at hdig
        subst hx
        replace hdig := Lib.hid hdig
        go_wp2
        go_roundw
        case rel =>
          refine ⟨j, rfl, by omega, by rw [hdig.out], ?_, hbl.out.setCell (Nat.le_refl _) _, by rw [World.size_setCell]; exact hsz⟩
          rw [hdig.out, ← hset.out]
          exact hputs.out _ hO.out r
        case measure => first | (simp [intOf]; done) | (simp [intOf]; omega)
      · rw [if_neg hx] at hdig
        have ex : (x == 0) = false := by rw [beq_eq_false_iff_ne]; exact hx
        have k5 := fun W => cellTwo_any 5 x r W hb64 hr64
        have k4 := fun W => cellTwo_any 4 r x W hr64 hb64
        rw [show M.two 5 x r = .ok (wrap64 (r - wrap64 (x * M.floor r x))) from if_neg hx] at k5
        rw [show M.two 4 r x = .ok (M.floor r x) from if_neg hx] at k4
        dsimp only [resI] at k5 k4
        replace k5 := Lib.hid k5
        replace k4 := Lib.hid k4
        replace hdig := Lib.hid hdig
        replace hx := Lib.hid hx
        go_wp2_with fail
        refine (k5.out _).mono ?_
        rintro e w2 ⟨rfl, n2, hw2⟩
        have hO2 := hO.out.same (w' := w2) (by rw [hw2]; rfl)
        have hbl2 : Below w.heap.size w w2 := by rw [hw2]; exact below_drewN hbl.out n2
        have hs2 : w.heap.size < w2.heap.size := by rw [hw2]; exact hsz
        replace hw2 := Lib.hid hw2
        clear y0 x0 hO
        obtain ⟨y0, x0⟩ := hO2 j _ hcell.out
        have hO3 := Lib.hid (hputs.out _ hO2 (wrap64 (r - wrap64 (x * M.floor r x))))
        have hbl3 : Hid (Below w.heap.size w (w2.setCell ⟨w.heap.size, j, none⟩ (.int .i64 (wrap64 (r - wrap64 (x * M.floor r x)))))) := Lib.hid (hbl2.setCell (Nat.le_refl _) _)
        clear hbl2 hO2
        go_wp2_with fail
        refine (k4.out _).mono ?_
        rintro e w3 ⟨rfl, n3, hw3⟩
        have hO4 := hO3.out.same (w' := w3) (by rw [hw3]; rfl)
        have hbl4 : Below w.heap.size w w3 := by rw [hw3]; exact below_drewN hbl3.out n3
        have hs4 : w.heap.size < w3.heap.size := by rw [hw3]; show _ < (World.setCell _ _ _).heap.size; rw [World.size_setCell]; exact hs2
        replace hw3 := Lib.hid hw3
        clear y0 x0
        replace hO4 := Lib.hid hO4
        replace hbl4 := Lib.hid hbl4
        replace hs4 := Lib.hid hs4
        go_wp2
        go_roundw
        case rel =>
          refine ⟨j, rfl, by omega, by rw [hdig.out], ?_, hbl4.out, hs4.out⟩
          rw [hdig.out, ← hset.out]
          exact hO4.out
        case measure => first | (simp [intOf]; done) | (simp [intOf]; omega)
end Go.Proofs.YtaplaoelamnoiaaGreatDoor
