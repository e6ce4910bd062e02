/- The walk of the law ArrCycles: it returns true whatever the input, and writes nothing that was there. -/
import Derived.Test.YtbhbmkkpbceebaaBox
import Derived.Test.YtbhbmkkpbceebaaWkIota
import Derived.Test.YtbhbmkkpbceebaaInts
namespace Go.Proofs.Ytbhbmkkpbceebaa
open Go.RowKit

theorem fact_iota : M.iota 2 = .ok ⟨false, [2], [0, 1]⟩ := rfl

theorem cycle_get {d : List Int} {n k : Nat} (z : Int) (hk : k < n) (h0 : d.length ≠ 0) : (M.cycle d n z).getD k 0 = d.getD (k % d.length) 0 := by
  simp [M.cycle, hk, h0]

theorem reshape_ok {s : List Int} {x v : Arr} (h : M.reshape s x = .ok v) : ∃ q, M.count s = .ok q ∧ M.flaw x.ch x.s x.d = 0 ∧ v = ⟨x.ch, s, M.cycle x.d q.toNat (M.fill x.ch)⟩ := by
  unfold M.reshape at h
  split at h
  · cases h
  · rename_i n hn
    split at h
    · rename_i hf; cases h; exact ⟨n, hn, hf, rfl⟩
    · cases h

set_option maxHeartbeats 2000000 in
theorem arrCycles_walk (p0 : Option Addr) (x0 : List Int) (c0 : Nat) (b1 : Bool) (p1 q1 : Option Addr) (x1 y1 : List Int) (c1 d1 : Nat) (a2 : Int) (w : World)
    (r0 : Row w p0 x0) (l0 : x0.length ≤ maxLen) (_ : All64 x0) (r1 : Row w p1 x1) (t1 : Row w q1 y1) (l1 : x1.length ≤ maxLen) (m1 : y1.length ≤ maxLen) (_ : All64 x1) (_ : All64 y1) (w2 : I64 a2) :
    Calls Try.prog 4 #[.slice p0 x0.length c0, arrV b1 p1 x1.length c1 q1 y1.length d1, .int .i64 a2] w fun e w' => e = .returned (.bool true) ∧ Below w.heap.size w w' := by
  go_enter Try.func4, Try.ntmps4
  go_wp2_with fail
  refine (iota_any 2 _ (by unfold I64; omega)).mono ?_
  intro e w1 hp
  obtain ⟨a, c, b, k, rfl, ra, rb, hb⟩ := hp.is_ok fact_iota
  clear hp ra rb
  have B1 : Box w1 (w.heap.size) b1 p1 x1.length c1 q1 y1.length d1 := held3 hb ⟨by simp [go_sem], by simp [go_sem], by simp [go_sem]⟩
  have bw : Below w.heap.size w w1 := below_trans (push (start w) _) hb
  have hlt : w.heap.size < w1.heap.size := World.block_lt_of_cell? w1 _ B1.1
  have hne : w1.heap.size ≠ w.heap.size := Nat.ne_of_gt hlt
  clear hb
  obtain ⟨u0, u1, u2⟩ := id B1
  go_wp2_with fail
  refine (reshape_any p0 x0 _ c0 b1 p1 q1 x1 y1 _ c1 _ d1 _ (r0.below (push bw _)) l0 rfl (r1.below (push bw _)) (t1.below (push bw _)) l1 m1 rfl rfl).mono ?_
  intro e w2' hp
  cases hr : M.reshape x0 ⟨b1, x1, y1⟩ with
  | error n =>
    obtain ⟨rfl, hb⟩ := hp.is_error hr
    clear hp hr
    replace bw := below_trans (push bw _) hb
    clear hb u0 u1 u2
    go_wp2
    go_ret
    exact ⟨rfl, push bw _⟩
  | ok v =>
    obtain ⟨q, hq, h0, rfl⟩ := reshape_ok hr
    obtain ⟨a3, c3, b3, k3, rfl, r3, t3, hb⟩ := hp.is_ok hr
    clear hp hr h0
    dsimp only at r3 t3 ⊢
    have q0 := (M.count_ok hq).2.2.2.1
    have q1' := (M.count_ok hq).2.2.2.2
    obtain ⟨n, rfl⟩ : ∃ n : Nat, q = n := ⟨q.toNat, by omega⟩
    rw [Int.toNat_natCast] at t3 ⊢
    have hcl : (M.cycle y1 n (M.fill b1)).length = n := cycle_length _ _ _
    replace hq := Lib.hid hq
    clear u0 u1 u2
    replace bw := below_trans (push bw _) hb
    replace B1 := held3 hb ⟨(World.cell?_alloc_lt _ _ _ hlt).trans B1.1, (World.cell?_alloc_lt _ _ _ hlt).trans B1.2.1, (World.cell?_alloc_lt _ _ _ hlt).trans B1.2.2⟩
    clear hb hlt hne
    have hlt : w.heap.size < w2'.heap.size := World.block_lt_of_cell? w2' _ B1.1
    have hne : w2'.heap.size ≠ w.heap.size := Nat.ne_of_gt hlt
    rw [hcl]
    obtain ⟨u0, u1, u2⟩ := id B1
    have en : (((n : Nat) : Int) != ((n : Nat) : Int)) = false := by rw [bne_eq_false_iff_eq]
    have eb : (b1 != b1) = false := by rw [bne_eq_false_iff_eq]
    go_wp2_with fail
    refine (count_any p0 x0 _ c0 _ (r0.below (push bw _)) l0 rfl).mono ?_
    rintro e w4 ⟨rfl, rfl⟩
    rw [hq.out]
    dsimp only [resI]
    go_wp2_with fail
    refine (ints_any a3 p0 x0 x0 _ _ c3 c0 _ (r3.alloc _) (r0.below (push bw _)) l0 l0 rfl rfl).mono ?_
    rintro e w5 ⟨rfl, nd, rfl⟩
    rw [decide_eq_true (rfl : x0 = x0)]
    have bw5 := below_drewN (push bw (.cells #[.bool b1, .slice a3 x0.length c3, .slice b3 n k3] 24)) nd
    cases g1 : decide (a2 < 0) with
    | true =>
      replace g1 := Lib.hid g1
      have g1' : decide (a2 < 0) = true := g1.out
      go_wp2
      go_ret
      exact ⟨rfl, bw5⟩
    | false =>
      cases g2 : decide ((n : Int) ≤ a2) with
      | true =>
        go_wp2
        go_ret
        exact ⟨rfl, bw5⟩
      | false =>
        cases g3 : ((y1.length : Int) == 0) with
        | true =>
          go_wp2
          go_ret
          exact ⟨rfl, bw5⟩
        | false =>
          have k1 : 0 ≤ a2 := by have := of_decide_eq_false g1; omega
          have k2 : a2 < n := by have := of_decide_eq_false g2; omega
          obtain ⟨k, rfl⟩ : ∃ k : Nat, a2 = k := ⟨a2.toNat, by omega⟩
          have k3' : k < n := by omega
          have k4 : y1.length ≠ 0 := by have := beq_eq_false_iff_ne.1 g3; omega
          have hj : k % y1.length < y1.length := Nat.mod_lt _ (by omega)
          have hmod : ((k : Int).tmod ((y1.length : Nat) : Int)) = ((k % y1.length : Nat) : Int) := by
            rw [Int.tmod_eq_emod_of_nonneg (by omega)]; rfl
          have hget := cycle_get (M.fill b1) k3' k4
          obtain ⟨g3b, g3o, rfl, hc3⟩ := (t3.alloc (.cells #[.bool b1, .slice a3 x0.length c3, .slice b3 n k3] 24)) k (by rw [hcl]; exact k3')
          obtain ⟨g4b, g4o, rfl, hc4⟩ := (t1.below (push bw (.cells #[.bool b1, .slice a3 x0.length c3, .slice (some ⟨g3b, g3o, none⟩) n k3] 24))) (k % y1.length) hj
          rw [hget] at hc3
          replace hget := Lib.hid hget
          clear g1 g2 k1 k2 w2
          generalize k % y1.length = j at *
          generalize y1.getD j 0 = val at *
          go_wp2
          go_quiet (fail)
          go_wp2
          go_ret
          exact ⟨by first | rfl | simp, below_drewN (below_drewN (push bw _) _) _⟩

end Go.Proofs.Ytbhbmkkpbceebaa
