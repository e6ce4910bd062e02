/- The iterator shape.fromLast: over a slice of ints it hands the indices from the last one on, each with its number, whatever the loop's body does above the blocks that lay. Condition: the slice reads as a list of ints. -/
import Derived.RangeFuncNested
import Derived.RangeFuncBound
import Derived.RangeFuncCalls
import Derived.RangeFuncLeaves
import Derived.RangeFuncFrom
import Derived.Shelf.Abstract
import Derived.Shelf.RegionOpen
import Derived.OwnWalkIn
import Derived.TacticsInMore
import Derived.LoopNIn
import Derived.LoopIn
import Derived.Test.YtldhklbpmfckcaaDoorKit
namespace Go.Proofs.YtldhklbpmfckcaaDoor
open Go.RowKit Go.Shelf
attribute [local go_sem] Oper.semAt_some

/-- The indices of L cells from the last one down to k. -/
def downTo (L k : Nat) : List (Fin L) := ((List.finRange L).drop k).reverse

theorem downTo_all (L : Nat) : downTo L 0 = (List.finRange L).reverse := rfl
theorem downTo_none (L : Nat) : downTo L L = [] := by simp [downTo]
theorem downTo_step (L k : Nat) (h : k < L) : downTo L k = downTo L (k + 1) ++ [⟨k, h⟩] := by
  unfold downTo
  rw [List.drop_eq_getElem_cons (by simpa using h), List.reverse_cons]
  congr 2
  simp
theorem downTo_length (L k : Nat) : (downTo L k).length = L - k := by simp [downTo]

/-- What a round that goes on keeps: the blocks below n₀, and block Bs. -/
def Keep (n₀ Bs : Nat) (W W' : World) : Prop := Below n₀ W W' ∧ W'.heap[Bs]? = W.heap[Bs]?
theorem Keep.refl (n₀ Bs : Nat) (W : World) : Keep n₀ Bs W W := ⟨Below.refl _ _, rfl⟩
theorem Keep.trans {n₀ Bs : Nat} {A B C : World} (h : Keep n₀ Bs A B) (k : Keep n₀ Bs B C) : Keep n₀ Bs A C := ⟨h.1.trans k.1, k.2.trans h.2⟩
theorem Keep.cell {n₀ Bs : Nat} {A B : World} (h : Keep n₀ Bs A B) {o : Nat} : B.cell? ⟨Bs, o, none⟩ = A.cell? ⟨Bs, o, none⟩ := World.cell?_of_block (w := A) h.2

def encs (s : List Int) (i : Fin s.length) : Array Value := #[.int .i64 ((i : Nat) : Int), .int .i64 (s.getD i 0)]

set_option maxRecDepth 100000 in
set_option maxHeartbeats 2000000 in
theorem fromLast1_in (n : Nat) (hn : 1 ≤ n) (l Bs n₀ c : Nat) (a : Option Addr) (s : List Int) (hm : s.length ≤ maxLen) (J Jx : List (Fin s.length) → World → Prop)
    (hY : ∀ pre x W, J pre W → pre.length < s.length → YieldAt Fence.wide (n - 1) Tryd.prog l (encs s x) W fun e W' =>
      (e = .returned (.bool true) ∧ J (pre ++ [x]) W' ∧ Keep n₀ Bs W W') ∨ (e = .returned (.bool false) ∧ Jx (pre ++ [x]) W'))
    (W : World) (hBs : W.cell? ⟨Bs, 0, none⟩ = some (.slice a s.length c)) (hs : Row W a s) (hlow : ∀ b off, a = some ⟨b, off, none⟩ → 0 < s.length → b < n₀) (h0 : J [] W) :
    CallsIn Fence.wide n Tryd.prog 43 #[.func (.yield l) #[] #[], .pointer (some ⟨Bs, 0, none⟩)] W fun e W' => (∃ v, e = .returned v) ∧
      ((∃ ys, ys = downTo s.length 0 ∧ J ys W') ∨ (∃ pre, True ∧ Jx pre W')) := by
  unfold maxLen at hm
  refine callsIn_of_wp Tryd.func43 rfl trivial ?_ rfl
  simp only [Tryd.ntmps43, List.size_toArray, List.length_cons, List.length_nil, Nat.reduceAdd, Nat.reduceSub, Array.replicate_succ, Array.replicate_zero, List.push_toArray, List.append_toArray, List.nil_append, List.cons_append]
  gi_wp2
  gi_loopw [3] (fun i wr => ∃ k : Nat, k ≤ s.length ∧ i = .int .i64 ((k : Int) - 1) ∧ J (downTo s.length k) wr ∧ Keep n₀ Bs W wr)
    (fun i _ => ((intOf i) + 1).toNat)
  case atStart => exact ⟨s.length, Nat.le_refl _, rfl, by rw [downTo_none]; exact h0, Keep.refl _ _ _⟩
  case round =>
    obtain ⟨k, hk, rfl, hJs, hnx⟩ := hrel
    by_cases hlt : 0 < k
    · obtain ⟨j, rfl⟩ : ∃ j, k = j + 1 := ⟨k - 1, by omega⟩
      have hj : j < s.length := by omega
      have hbx := hnx.cell.trans hBs
      obtain ⟨b, off, rfl, hc⟩ := hs j hj
      have hcx := (hnx.1.cell (p := ⟨b, off + j, none⟩) (hlow b off rfl (by omega))).trans hc
      obtain ⟨fn, tmps, assign, body, hy, hR⟩ := hY _ ⟨j, hj⟩ wr hJs (by rw [downTo_length]; omega)
      rw [show encs s ⟨j, hj⟩ = #[.int .i64 (j : Int), .int .i64 s[j]] from by simp [encs, hj]] at hy
      have hidx : ((j + 1 : Nat) : Int) - 1 = (j : Int) := by omega
      rw [hidx]
      gi_wp2
      refine hR.mono ?_
      rintro e W3 (⟨rfl, hJ3, hk3⟩ | ⟨rfl, hJx3⟩)
      · gi_wp2
        go_roundw
        case rel => exact ⟨j, by omega, rfl, by rw [downTo_step _ _ hj]; exact hJ3, hnx.trans hk3⟩
        case measure => simp [intOf]
      · gi_wp2
        refine bodyPost_ret (results_none rfl _ _ _) rfl ?_
        exact ⟨⟨_, rfl⟩, .inr ⟨_, trivial, hJx3⟩⟩
    · obtain rfl : k = 0 := by omega
      gi_wp2
      go_end0
      exact ⟨⟨_, rfl⟩, .inl ⟨_, rfl, hJs⟩⟩

/-- fromLast hands back a value that, called with any loop body, hands it all indices from the last one on. -/
theorem fromLast_stops (n : Nat) (hn : 1 ≤ n) (Bs n₀ c : Nat) (a : Option Addr) (s : List Int) (hm : s.length ≤ maxLen) (w : World) (hBw : Bs < w.heap.size)
    (hBs : w.cell? ⟨Bs, 0, none⟩ = some (.slice a s.length c)) (hs : Row w a s) (hlow : ∀ b off, a = some ⟨b, off, none⟩ → 0 < s.length → b < n₀) :
    SeqStopsK Fence.wide n Tryd.prog 43 #[.pointer (some ⟨Bs, 0, none⟩)] (encs s) (Keep n₀ Bs) (fun ys => ys = downTo s.length 0) (fun _ => True) s.length w := fun l J Jx W hW _ _ hY h0 => by
  have hBs' := (hW.cell (p := ⟨Bs, 0, none⟩) hBw).trans hBs
  exact fromLast1_in n hn l Bs n₀ c a s hm J Jx hY W hBs' (hs.below hW) hlow h0

set_option maxHeartbeats 1000000 in
/-- fromLast boxes the slice; the function value captures the box. -/
theorem fromLast_in (n : Nat) (a : Option Addr) (len cap : Nat) (w : World) :
    CallsIn Fence.wide n Tryd.prog 35 #[.slice a len cap] w fun e w' => e = .returned (.func (.func 43) #[] #[.pointer (some ⟨w.heap.size, 0, none⟩)]) ∧ w' = w.alloc (.cells #[.slice a len cap] 37) := by
  refine callsIn_of_wp Tryd.func35 rfl trivial ?_ rfl
  simp only [Tryd.ntmps35, List.size_toArray, List.length_cons, List.length_nil, Nat.reduceAdd, Nat.reduceSub, Array.replicate_succ, Array.replicate_zero, List.push_toArray, List.append_toArray, List.nil_append, List.cons_append]
  gi_wp2
  go_ret
  exact ⟨rfl, rfl⟩

end Go.Proofs.YtldhklbpmfckcaaDoor
