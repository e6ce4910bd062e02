/- The document's Unit, Times, Raised: products and powers of squares. Condition: at most six rows, in rows of ints. -/
import Derived.Test.YtcenhemlgapkeaaDoorBdD
import Derived.Test.YtcenhemlgapkeaaDoorBdQ
import Derived.Test.YtcenhemlgapkeaaDoorCharPlain
import Derived.Test.YtcenhemlgapkeaaDoorBdM
import Derived.Test.YtcenhemlgapkeaaDoorBdA
import Derived.RegionTactic
import Derived.Deep.QuietTactic
import Derived.BigQuiet
namespace Go.Proofs.YtcenhemlgapkeaaDoor
open Go.RowKit

theorem sqList_put {n : Nat} (A : Nat → Nat → Int) {i j : Nat} (hj : j < n) (v : Int) : (sqList n A).set (i * n + j) (wrap64 v) = sqList n (put A i j v) := by
  apply List.ext_getElem
  · simp [sqList]
  · intro p h1 h2
    have hp : p < n * n := by rw [sqList_length] at h2; exact h2
    rw [List.getElem_set]
    simp only [sqList, List.getElem_map, List.getElem_range, put]
    have e := sq_at_index (p := p) (i := i) hj
    by_cases h : i * n + j = p
    · obtain ⟨q1, q2⟩ := e.1 h
      rw [if_pos h, if_pos ⟨q1.symm, q2.symm⟩]
    · rw [if_neg h, if_neg (fun k => h (e.2 ⟨k.1.symm, k.2.symm⟩))]
theorem sqList_zero (n : Nat) : sqList n zeroM = List.replicate (n * n) 0 := by
  apply List.ext_getElem
  · simp [sqList]
  · intro p h1 h2
    simp [sqList, zeroM, wrap_zero]

set_option maxRecDepth 20000 in
set_option maxHeartbeats 16000000 in
theorem refUnit_any (n : Nat) (w : World) (hn : n ≤ 6) :
    Calls Tryd.prog 45 #[.int .i64 (n : Int)] w (BlockPost (n * n) (sqList n Mx.one) w) := by
  have hnn : n * n ≤ 6 * 6 := Nat.mul_le_mul hn hn
  obtain ⟨N, hNN⟩ : ∃ N, N = n * n := ⟨_, rfl⟩
  have N1 : N ≤ 36 := by rw [hNN]; exact hnn
  have hmk := fun W => run_make_ints N (by omega) W
  have wN : wrap64 ((n : Int) * (n : Int)) = (N : Int) := by
    have : ((n : Int) * (n : Int)) = ((n * n : Nat) : Int) := by simp
    rw [this, ← hNN]; exact IntWalk.wrap64_in _ (by omega)
  rw [← hNN]
  clear hnn
  have hone : sqList n (unitM n 1) = sqList n Mx.one := sqList_congr fun i j hi _ => by
    unfold unitM Mx.one
    by_cases h : i = j
    · rw [if_pos ⟨h, hi⟩, if_pos h]
    · rw [if_neg (fun k => h k.1), if_neg h]
  replace hone := Lib.hid hone
  replace hNN := Lib.hid hNN
  go_enter Tryd.func45, Tryd.ntmps45
  go_wp2
  replace wN := Lib.hid wN
  have hb0 := push (start w) (.cells (zeroCells N) 3)
  have h0 : (w.alloc (.cells (zeroCells N) 3)).heap[w.heap.size]? = some (.cells (cellsOf (sqList n (unitM 0 1))) 3 (0, 0)) := by rw [heap_alloc_new, unit_zero, sqList_zero, ← hNN.out, room_cells]
  generalize hwa : w.alloc (.cells (zeroCells N) 3) = wa at *
  replace hwa := Lib.hid hwa
  go_loopw [4] (fun v wr => ∃ i : Nat, i ≤ n ∧ v = .int .i64 i ∧ wr.heap[w.heap.size]? = some (.cells (cellsOf (sqList n (unitM i 1))) 3 (0, 0)) ∧ Below w.heap.size w wr) (fun v _ => n - (intOf v).toNat)
  case atStart => exact ⟨0, Nat.zero_le _, rfl, h0, hb0⟩
  case round =>
    clear h0 hb0
    obtain ⟨i, hi, rfl, hg, hbel⟩ := hrel
    by_cases hli : i < n
    · have q1 := sq_index_lt hli hli
      have hset := block_set hg (i * n + i) 1
      have hbs := hbel.setCell (p := ⟨w.heap.size, i * n + i, none⟩) (Nat.le_refl _) (.int .i64 1)
      have c3 := block_cell hg (k := i * n + i) (by rw [sqList_length]; exact q1)
      have f3 := frozen_of_row wr w.heap.size (i * n + i) _ 3 hg
      have e2 := sqList_put (unitM i 1) (i := i) hli 1
      rw [unit_step, show wrap64 1 = 1 from wrap_id (by unfold I64; omega)] at e2
      rw [e2] at hset
      clear e2
      have e1 : ((i : Int) * (n : Int)) = ((i * n : Nat) : Int) := by simp
      rw [← hNN.out] at q1
      generalize i * n = p at *
      have p1 : p ≤ 36 := by omega
      have i1 : (p : Int) + (i : Int) < (N : Int) := by omega
      have pw : -9223372036854775808 ≤ (p : Int) ∧ (p : Int) ≤ 9223372036854775807 := by omega
      have w1 : ∀ m : Nat, m = n → wrap64 ((i : Int) * (m : Int)) = (p : Int) := by rintro m rfl; rw [e1]; exact IntWalk.wrap64_in _ pw
      clear e1 pw
      replace hset := Lib.hid hset
      replace hg := Lib.hid hg
      go_wp2
      go_roundw
      case rel => exact ⟨i + 1, hli, num1 i, hset.out, hbs⟩
      case measure => exact meas1 hli
    · obtain rfl : i = n := by omega
      rw [hone.out] at hg
      replace hg := Lib.hid hg
      go_wp2
      go_ret
      exact ⟨_, rfl, hg.out, Nat.le_refl _, hbel⟩

set_option maxRecDepth 20000 in
set_option maxHeartbeats 16000000 in
theorem refTimes_any (n : Nat) (A B : Nat → Nat → Int) (a b : Option Addr) (m z m' z' : Nat) (w : World) (ha : Row w a (sqList n A)) (hb : Row w b (sqList n B)) (hn : n ≤ 6) (em : m = n * n) (em' : m' = n * n) :
    Calls Tryd.prog 46 #[.int .i64 (n : Int), .slice a m z, .slice b m' z'] w (OwnPost (sqList n (Mx.mul n A B)) w) := by
  have hnn : n * n ≤ 6 * 6 := Nat.mul_le_mul hn hn
  obtain ⟨N, hNN⟩ : ∃ N, N = n * n := ⟨_, rfl⟩
  rw [← hNN] at em em'
  rw [em, em']
  clear em em'
  have N1 : N ≤ 36 := by rw [hNN]; exact hnn
  clear hnn
  have hA : ∀ wr, Below w.heap.size w wr → ∀ i k, i < n → k < n → ∃ g o, a = some ⟨g, o, none⟩ ∧ wr.cell? ⟨g, o + (i * n + k), none⟩ = some (.int .i64 (wrap64 (A i k))) := fun wr hb i k hi hk => by
    obtain ⟨g, o, h1, h2⟩ := ha.below hb (i * n + k) (by rw [sqList_length]; exact sq_index_lt hi hk)
    rw [sqList_get A hi hk] at h2; exact ⟨g, o, h1, h2⟩
  have hB : ∀ wr, Below w.heap.size w wr → ∀ i k, i < n → k < n → ∃ g o, b = some ⟨g, o, none⟩ ∧ wr.cell? ⟨g, o + (i * n + k), none⟩ = some (.int .i64 (wrap64 (B i k))) := fun wr hb' i k hi hk => by
    obtain ⟨g, o, h1, h2⟩ := hb.below hb' (i * n + k) (by rw [sqList_length]; exact sq_index_lt hi hk)
    rw [sqList_get B hi hk] at h2; exact ⟨g, o, h1, h2⟩
  clear ha hb
  have hT : (sqList n (Mx.mul n A B)).length = N := by rw [sqList_length, ← hNN]
  have hG : ∀ i j, i < n → j < n → (sqList n (Mx.mul n A B)).getD (i * n + j) 0 = wrap64 (Mx.S n fun t => A i t * B t j) := fun i j hi hj => sqList_get _ hi hj
  generalize sqList n (Mx.mul n A B) = T at *
  replace hNN := Lib.hid hNN
  replace hT := Lib.hid hT
  replace hG := Lib.hid hG
  replace hA := Lib.hid hA
  replace hB := Lib.hid hB
  go_enter Tryd.func46, Tryd.ntmps46
  go_wp2
  go_loopw [7, 8] (fun v5 v6 wr => ∃ i : Nat, i ≤ n ∧ v6 = .int .i64 i ∧ Own wr w.heap.size v5 (T.take (i * n)) ∧ Below w.heap.size w wr) (fun _ v _ => n - (intOf v).toNat)
  case atStart => exact ⟨0, Nat.zero_le _, rfl, by rw [Nat.zero_mul]; exact Own.nil _ _, Below.refl _ _⟩
  case round =>
    obtain ⟨i, hi, rfl, hown, hbel⟩ := hrel
    have hv := hown.view
    obtain ⟨av, cv, rfl, -, -, -⟩ := hv
    replace hown := Lib.hid hown
    by_cases hli : i < n
    · go_wp2
      rename World => w1
      go_loopw [7, 9] (fun v5 v7 wr => ∃ j : Nat, j ≤ n ∧ v7 = .int .i64 j ∧ Own wr w.heap.size v5 (T.take (i * n + j)) ∧ Below w.heap.size w wr) (fun _ v _ => n - (intOf v).toNat)
      case atStart => exact ⟨0, Nat.zero_le _, rfl, hown.out, hbel⟩
      case round =>
        clear hown hbel
        obtain ⟨j, hj, rfl, hown, hbel⟩ := hrel
        have hle : i * n + j ≤ N := by
          rw [hNN.out]
          have h1 : (i + 1) * n ≤ n * n := Nat.mul_le_mul_right n hli
          rw [Nat.add_mul, Nat.one_mul] at h1; omega
        have hlen : (T.take (i * n + j)).length = i * n + j := by rw [List.length_take, hT.out]; omega
        have hv := hown.view
        rw [hlen] at hv
        obtain ⟨av, cv, rfl, -, -, -⟩ := hv
        replace hown := Lib.hid hown
        replace hlen := Lib.hid hlen
        by_cases hlj : j < n
        · go_wp2
          rename World => w2
          go_loopw [10, 11] (fun v8 v9 wr => ∃ k : Nat, k ≤ n ∧ v9 = .int .i64 k ∧ v8 = .int .i64 (wrap64 (Mx.S k fun t => A i t * B t j)) ∧ Own wr w.heap.size (.slice av (i * n + j) cv) (T.take (i * n + j)) ∧ Below w.heap.size w wr) (fun _ v _ => n - (intOf v).toNat)
          case atStart => exact ⟨0, Nat.zero_le _, rfl, by first | rfl | rw [S_none, wrap_zero], hown.out, hbel⟩
          case round =>
            clear hown hbel
            obtain ⟨k, hk, rfl, rfl, hown, hbel⟩ := hrel
            replace hown := Lib.hid hown
            by_cases hlk : k < n
            · obtain ⟨ga, oa, rfl, ca⟩ := hA.out wr hbel i k hli hlk
              obtain ⟨gb, ob, rfl, cb⟩ := hB.out wr hbel k j hlk hlj
              have q1 := sq_index_lt hli hlk
              have q2 := sq_index_lt hlk hlj
              rw [← hNN.out] at q1 q2
              have e1 : ((i : Int) * (n : Int)) = ((i * n : Nat) : Int) := by simp
              have e2 : ((k : Int) * (n : Int)) = ((k * n : Nat) : Int) := by simp
              have hmac := Lib.hid (wrap_mac (Mx.S k fun t => A i t * B t j) (A i k) (B k j))
              have hsn := Lib.hid (S_next k fun t => A i t * B t j)
              generalize (Mx.S k fun t => A i t * B t j) = s0 at *
              generalize A i k = x at *
              generalize B k j = y at *
              obtain ⟨p, hp⟩ : ∃ p, p = i * n := ⟨_, rfl⟩
              obtain ⟨q, hq⟩ : ∃ q, q = k * n := ⟨_, rfl⟩
              rw [← hp] at q1 e1 ca
              rw [← hq] at q2 e2 cb
              have p1 : p ≤ 36 := by clear e1 e2; omega
              have p2 : q ≤ 36 := by clear e1 e2; omega
              have i1 : (p : Int) + (k : Int) < (N : Int) := by clear e1 e2; omega
              have i2 : (q : Int) + (j : Int) < (N : Int) := by clear e1 e2; omega
              have pw : -9223372036854775808 ≤ (p : Int) ∧ (p : Int) ≤ 9223372036854775807 := by clear e1 e2; omega
              have qw : -9223372036854775808 ≤ (q : Int) ∧ (q : Int) ≤ 9223372036854775807 := by clear e1 e2; omega
              have wI1 : ∀ a b : Int, a = (i : Int) → b = (n : Int) → IntKind.i64.wrap (a * b) = (p : Int) := fun a b ha hb => by
                subst ha; subst hb; rw [IntWalk.i64_left, e1]; exact IntWalk.wrap64_in _ pw
              have wI2 : ∀ a b : Int, a = (k : Int) → b = (n : Int) → IntKind.i64.wrap (a * b) = (q : Int) := fun a b ha hb => by
                subst ha; subst hb; rw [IntWalk.i64_left, e2]; exact IntWalk.wrap64_in _ qw
              have wS1 : IntKind.i64.wrap ((p : Int) + (k : Int)) = ((p + k : Nat) : Int) := by clear e1 e2; rw [IntKind.wrap_i64]; omega
              have wS2 : IntKind.i64.wrap ((q : Int) + (j : Int)) = ((q + j : Nat) : Int) := by clear e1 e2; rw [IntKind.wrap_i64]; omega
              clear e1 e2 pw qw
              replace hp := Lib.hid hp
              replace hq := Lib.hid hq
              go_wp2
              go_quiet (fail)
              go_wp2
              go_roundw
              case rel => exact ⟨k + 1, hlk, num1 k, by rw [hsn.out, ← hmac.out], hown.out, below_drewN hbel _⟩
              case measure => exact meas1 hlk
            · obtain rfl : k = n := by omega
              have hget := hG.out i j hli hlj
              have q1 := sq_index_lt hli hlj
              rw [← hNN.out] at q1
              have hnx := Lib.hid (show T.take (i * k + j) ++ [wrap64 (Mx.S k fun t => A i t * B t j)] = T.take (i * k + (j + 1)) by rw [← hget, ← Nat.add_assoc]; exact (take_snoc (by rw [hT.out]; exact q1)).symm)
              have hlt : (T.take (i * k + j)).length < 17592186044416 := by rw [hlen.out]; omega
              have hlk := Lib.hid (show i * k + j + 1 = (T.take (i * k + j)).length + 1 by rw [hlen.out])
              generalize i * k + j = u at *
              generalize (Mx.S k fun t => A i t * B t j) = s0 at *
              replace hget := Lib.hid hget
              go_wp2_with (refine app_int2 rfl (.tmp 46) (.tmp 48) rfl w.heap.size _ (T.take u) (wrap64 s0) rfl hown.out rfl hlt hbel.size (u + 1) hlk.out ?_; intro a' c' w' ho' hb' hs')
              go_roundw
              case rel => exact ⟨j + 1, hlj, num1 j, by rw [← hnx.out]; exact ho', hbel.trans hb'⟩
              case measure => exact meas1 hlj
        · obtain rfl : j = n := by omega
          go_wp2
          go_roundw
          case rel => exact ⟨i + 1, hli, num1 i, by rw [Nat.add_mul, Nat.one_mul]; exact hown.out, hbel⟩
          case measure => exact meas1 hli
    · obtain rfl : i = n := by omega
      have h0 : T.take (i * i) = T := List.take_of_length_le (by rw [hT.out, hNN.out]; exact Nat.le_refl _)
      go_wp2
      go_ret
      exact ⟨_, rfl, by have := hown.out; rw [h0] at this; rw [h0]; exact this, hbel⟩

/-- What a call leaves that tells a square's cells. -/
def SqOut (n : Nat) (A : Nat → Nat → Int) (w : World) (e : Ending) (w' : World) : Prop :=
  ∃ b c, e = .returned (.slice b (n * n) c) ∧ Row w' b (sqList n A) ∧ Below w.heap.size w w'
theorem BlockPost.sq {n : Nat} {A : Nat → Nat → Int} {w w' : World} {e : Ending} (h : BlockPost (n * n) (sqList n A) w e w') : SqOut n A w e w' := by
  obtain ⟨b, k, h1, h2, h3⟩ := h.row; exact ⟨b, k, h1, h2, h3⟩
theorem OwnPost.sq {n : Nat} {A : Nat → Nat → Int} {w w' : World} {e : Ending} (h : OwnPost (sqList n A) w e w') : SqOut n A w e w' := by
  obtain ⟨b, k, h1, h2, h3⟩ := h.row
  rw [sqList_length] at h1; exact ⟨b, k, h1, h2, h3⟩
theorem SqOut.congr {n : Nat} {A B : Nat → Nat → Int} {w w' : World} {e : Ending} (h : SqOut n A w e w') (hs : sqList n A = sqList n B) : SqOut n B w e w' := by
  unfold SqOut at *; rw [← hs]; exact h

set_option maxRecDepth 20000 in
set_option maxHeartbeats 8000000 in
theorem refRaised_any (n : Nat) (A : Nat → Nat → Int) (a : Option Addr) (z : Nat) (hn : n ≤ 6) (k : Nat) : ∀ (_ : k ≤ 9223372036854775807) (w : World) (_ : Row w a (sqList n A)),
    Calls Tryd.prog 21 #[.int .i64 (n : Int), .slice a (n * n) z, .int .i64 (k : Int)] w (SqOut n (Mx.pw n A k) w) := by
  induction k using Nat.strongRecOn with
  | ind k ih =>
    intro hk w ha
    have hT := fun X Y a b m z m' z' w h1 h2 h3 h4 => (refTimes_any n X Y a b m z m' z' w h1 h2 hn h3 h4).mono fun e w' h => h.sq
    by_cases h0 : k = 0
    · subst h0
      have hU := (refUnit_any n w hn).mono fun e w' h => h.sq
      replace hU := Lib.hid hU
      go_enter Tryd.func21, Tryd.ntmps21
      go_wp2_with fail
      refine hU.out.mono ?_
      rintro e w1 ⟨b, c, rfl, hr, hb⟩
      have hp := Lib.hid (⟨b, c, rfl, hr, hb⟩ : SqOut n (Mx.pw n A 0) w (.returned (.slice b (n * n) c)) w1)
      clear hr
      go_wp2
      go_ret
      exact hp.out
    · have ht : ((k : Int) == 0) = false := by rw [beq_eq_false_iff_ne]; omega
      have ih2 := ih (k / 2) (by omega) (by omega)
      have hq : ∀ (e : Ending) (w' : World) (B : Nat → Nat → Int), SqOut n B w e w' → (∀ i j, i < n → j < n → wrap64 (B i j) = wrap64 (Mx.pw n A k i j)) → SqOut n (Mx.pw n A k) w e w' := fun _ _ _ h h2 => h.congr (sqList_congr h2)
      have hm2 : ∀ i j, i < n → j < n → Mx.mul n (Mx.pw n A (k / 2)) (Mx.pw n A (k / 2)) i j = Mx.pw n A (k / 2 + k / 2) i j := fun i j hi hj => Mx.mul_pw n A (k / 2) (k / 2) i j hi
      have e3 : ((k : Int).tmod 2 == 1) = decide (k % 2 = 1) := by
        rw [Int.tmod_eq_emod_of_nonneg (by omega), Bool.eq_iff_iff, beq_iff_eq, decide_eq_true_eq]; omega
      rcases Nat.mod_two_eq_zero_or_one k with hp | hp
      · rw [decide_eq_false (by omega)] at e3
        have hE := Lib.hid (show ∀ i j, i < n → j < n → wrap64 (Mx.mul n (Mx.pw n A (k / 2)) (Mx.pw n A (k / 2)) i j) = wrap64 (Mx.pw n A k i j) from fun i j hi hj => by rw [hm2 i j hi hj, show k / 2 + k / 2 = k by omega])
        replace ih2 := Lib.hid ih2
        replace hm2 := Lib.hid hm2
        replace hT := Lib.hid hT
        replace hq := Lib.hid hq
        clear ih
        go_enter Tryd.func21, Tryd.ntmps21
        go_wp2_with fail
        refine (ih2.out w ha).mono ?_
        rintro e w1 ⟨b, c, rfl, hr, hb⟩
        go_wp2_with fail
        refine (hT.out _ _ _ _ _ _ _ _ _ hr hr rfl rfl).mono ?_
        rintro e w2 ⟨b2, c2, rfl, hr2, hb2⟩
        have hfin := Lib.hid (hq.out _ _ _ (⟨b2, c2, rfl, hr2, below_trans hb hb2⟩ : SqOut n _ w (.returned (.slice b2 (n * n) c2)) w2) hE.out)
        clear hr hr2
        go_wp2
        go_ret
        exact hfin.out
      · rw [decide_eq_true hp] at e3
        have hE := Lib.hid (show ∀ i j, i < n → j < n → wrap64 (Mx.mul n (Mx.mul n (Mx.pw n A (k / 2)) (Mx.pw n A (k / 2))) A i j) = wrap64 (Mx.pw n A k i j) from fun i j hi hj => by
          rw [Mx.mul_congr (A' := Mx.pw n A (k / 2 + k / 2)) (B' := Mx.pw n A 1) (fun l hl => hm2 i l hi hl) (fun l hl => (Mx.pw_one hj A).symm), Mx.mul_pw n A _ 1 i j hi, show k / 2 + k / 2 + 1 = k by omega])
        replace ih2 := Lib.hid ih2
        replace hm2 := Lib.hid hm2
        replace hT := Lib.hid hT
        replace hq := Lib.hid hq
        clear ih
        go_enter Tryd.func21, Tryd.ntmps21
        go_wp2_with fail
        refine (ih2.out w ha).mono ?_
        rintro e w1 ⟨b, c, rfl, hr, hb⟩
        go_wp2_with fail
        refine (hT.out _ _ _ _ _ _ _ _ _ hr hr rfl rfl).mono ?_
        rintro e w2 ⟨b2, c2, rfl, hr2, hb2⟩
        have hb12 := below_trans hb hb2
        have ha2 := ha.below hb12
        clear hr hb hb2
        go_wp2_with fail
        refine (hT.out _ _ _ _ _ _ _ _ _ hr2 ha2 rfl rfl).mono ?_
        rintro e w3 ⟨b3, c3, rfl, hr3, hb3⟩
        have hfin := Lib.hid (hq.out _ _ _ (⟨b3, c3, rfl, hr3, below_trans hb12 hb3⟩ : SqOut n _ w (.returned (.slice b3 (n * n) c3)) w3) hE.out)
        clear hr3 hr2 ha2
        go_wp2
        go_ret
        exact hfin.out
end Go.Proofs.YtcenhemlgapkeaaDoor
