/- The library's slices.Backward at ints: the contract of its iterator value, for loop bodies that keep all cells but those of some blocks. Condition: a row of ints of 64 bits. -/
import Derived.RangeFuncBox
import Derived.RangeFuncLeaves
import Derived.RangeFuncNested
import Derived.RangeFuncBound
import Derived.RangeFuncCalls
import Derived.Shelf.Abstract
import Derived.Shelf.RegionOpen
import Derived.WalkKit
import Derived.OwnWalkIn
import Derived.TacticsInMore
import Derived.LoopNIn
import Derived.LoopIn
import Derived.Deep.RegionHeld
import Derived.Test.YtfnoalbnkbifmaaFits
import Derived.Test.YtfnoalbnkbifmaaBdA
namespace Go.Proofs.Ytfnoalbnkbifmaa
open Go.RowKit Go.Shelf
attribute [local go_sem] Oper.semAt_some

/-- All cells but those of some blocks are as they were. -/
def KeepsBut (X : Nat → Prop) (W W' : World) : Prop := ∀ (p : Addr) (v : Value), ¬ X p.block → W.cell? p = some v → W'.cell? p = some v
theorem KeepsBut.refl (X : Nat → Prop) (W : World) : KeepsBut X W W := fun _ _ _ h => h
theorem KeepsBut.trans {X : Nat → Prop} {A B C : World} (h : KeepsBut X A B) (k : KeepsBut X B C) : KeepsBut X A C := fun p v hp hc => k p v hp (h p v hp hc)
theorem KeepsBut.setCell {X : Nat → Prop} (W : World) (q : Addr) (u : Value) (hq : X q.block) : KeepsBut X W (W.setCell q u) := fun p v hp hc => by
  rw [World.cell?_setCell_far _ _ _ _ (fun e => hp (e ▸ hq))]; exact hc
theorem keepsBut_b {X : Nat → Prop} (W : World) (l : Nat) (o o' : Obj) (h : W.heap[l]? = some o) (hc : o.isCells = false) : KeepsBut X W (W.putObj l o') := fun p v hp hv =>
  cell_kept hv (grownBy_putObj' W l o') (fun r e => by cases e; exact ⟨o, h, hc⟩)

/-- An index and a number of 64 bits. -/
abbrev E64 := { p : Int × Int // I64 p.2 }
theorem getD_i64 {zs : List Int} (h : All64 zs) (k : Nat) : I64 (zs.getD k 0) := by
  rw [List.getD_eq_getElem?_getD]
  cases e : zs[k]? with
  | none => show I64 0; unfold I64; omega
  | some v => exact h _ (List.mem_of_getElem? e)
/-- What comes in round k. -/
def bk (zs : List Int) (h : All64 zs) (k : Nat) : E64 := ⟨((((zs.length : Nat) : Int) - 1 - k), zs.getD (zs.length - 1 - k) 0), getD_i64 h _⟩
/-- What has come when k rounds are over. -/
def bks (zs : List Int) (h : All64 zs) (k : Nat) : List E64 := (List.range k).map (bk zs h)
theorem bks_succ (zs : List Int) (h : All64 zs) (k : Nat) : bks zs h (k + 1) = bks zs h k ++ [bk zs h k] := by simp [bks, List.range_succ]
theorem bks_length (zs : List Int) (h : All64 zs) (k : Nat) : (bks zs h k).length = k := by simp [bks]

set_option maxRecDepth 100000 in
set_option maxHeartbeats 4000000 in
theorem back1_in (F : Fence) (n : Nat) (hg : F.fn 47) (hro : F.round = none) (hn : 1 ≤ n) (l Bs : Nat) (X : Nat → Prop) (a : Option Addr) (cap : Nat) (zs : List Int) (h64 : All64 zs) (hlen : zs.length ≤ maxLen) (hX : ¬ X Bs) (hXa : ∀ p, a = some p → ¬ X p.block)
    (J Jx : List E64 → World → Prop)
    (hY : ∀ pre x W, J pre W → pre.length < zs.length → YieldAt F (n - 1) Try.prog l #[.int .i64 x.1.1, .int .i64 x.1.2] W fun e W' =>
      (e = .returned (.bool true) ∧ J (pre ++ [x]) W' ∧ KeepsBut X W W') ∨ (e = .returned (.bool false) ∧ Jx (pre ++ [x]) W'))
    (W : World) (hBs : W.cell? ⟨Bs, 0, none⟩ = some (.slice a zs.length cap)) (hc : Row W a zs) (h0 : J [] W) :
    CallsIn F n Try.prog 47 #[.func (.yield l) #[] #[], .pointer (some ⟨Bs, 0, none⟩)] W fun e W' => (∃ v, e = .returned v) ∧
      ((∃ ys, ys = bks zs h64 zs.length ∧ J ys W') ∨ (∃ pre, (∃ k, k ≤ zs.length ∧ pre = bks zs h64 k) ∧ Jx pre W')) := by
  unfold maxLen at hlen
  refine callsIn_of_wp Try.func47 rfl hg ?_ hro
  simp only [Try.ntmps47, List.size_toArray, List.length_cons, List.length_nil, Nat.reduceAdd, Nat.reduceSub, Array.replicate_succ, Array.replicate_zero, List.push_toArray, List.append_toArray, List.nil_append, List.cons_append]
  gi_wp2
  gi_loopw [3] (fun i wr => ∃ k : Nat, k ≤ zs.length ∧ i = .int .i64 (((zs.length : Nat) : Int) - 1 - k) ∧ J (bks zs h64 k) wr ∧ KeepsBut X W wr)
    (fun i _ => ((intOf i) + 1).toNat)
  case atStart => exact ⟨0, Nat.zero_le _, by simp, h0, KeepsBut.refl _ _⟩
  case round =>
    obtain ⟨k, hk, rfl, hJs, hnx⟩ := hrel
    have hBs' := hnx _ _ hX hBs
    by_cases hlt : k < zs.length
    · obtain ⟨b, o, rfl, hc1⟩ := hc (zs.length - 1 - k) (by omega)
      have hcx := hnx ⟨b, o + (zs.length - 1 - k), none⟩ _ (hXa ⟨b, o, none⟩ rfl) hc1
      have hix : ((zs.length : Nat) : Int) - 1 - (k : Int) = ((zs.length - 1 - k : Nat) : Int) := by omega
      obtain ⟨fn, tmps, assign, body, hy, hR⟩ := hY _ (bk zs h64 k) wr hJs (by rw [bks_length]; exact hlt)
      dsimp only [bk] at hy
      have hnew := bks_succ zs h64 k
      generalize bk zs h64 k = x at *
      have hil : zs.length - 1 - k < zs.length := by omega
      rw [hix] at hy ⊢
      generalize zs.length - 1 - k = q at *
      generalize zs.getD q 0 = v at *
      gi_wp2
      refine hR.mono ?_
      rintro e W3 (⟨rfl, hJ3, hk3⟩ | ⟨rfl, hJx3⟩)
      · gi_wp2
        go_roundw
        case rel => exact ⟨k + 1, by omega, by rw [← hix]; go_num, by rw [hnew]; exact hJ3, hnx.trans hk3⟩
        case measure => (simp [intOf]; try omega)
      · gi_wp2
        refine bodyPost_ret (results_none rfl _ _ _) rfl ?_
        exact ⟨⟨_, rfl⟩, .inr ⟨_, ⟨k + 1, by omega, hnew.symm⟩, hJx3⟩⟩
    · obtain rfl : k = zs.length := by omega
      gi_wp2
      go_end0
      exact ⟨⟨_, rfl⟩, .inl ⟨_, rfl, hJs⟩⟩

set_option maxHeartbeats 1000000 in
theorem backward_in (F : Fence) (n : Nat) (h5 : F.fn 37) (hro : F.round = none) (a : Option Addr) (len cap : Nat) (w : World) :
    CallsIn F n Try.prog 37 #[.slice a len cap] w fun e w' => e = .returned (.func (.func 47) #[] #[.pointer (some ⟨w.heap.size, 0, none⟩)]) ∧ w' = w.alloc (.cells #[.slice a len cap] 23) := by
  refine callsIn_of_wp Try.func37 rfl h5 ?_ hro
  simp only [Try.ntmps37, List.size_toArray, List.length_cons, List.length_nil, Nat.reduceAdd, Nat.reduceSub, Array.replicate_succ, Array.replicate_zero, List.push_toArray, List.append_toArray, List.nil_append, List.cons_append]
  gi_wp2
  go_ret
  exact ⟨rfl, rfl⟩

theorem back_stops (F : Fence) (n : Nat) (hg : F.fn 47) (hro : F.round = none) (hn : 1 ≤ n) (Bs : Nat) (X : Nat → Prop) (a : Option Addr) (cap : Nat) (zs : List Int) (h64 : All64 zs) (hlen : zs.length ≤ maxLen) (hX : ¬ X Bs) (hXa : ∀ p, a = some p → ¬ X p.block) (w : World)
    (hc : w.cell? ⟨Bs, 0, none⟩ = some (.slice a zs.length cap)) (hI : Row w a zs) :
    SeqStopsK F n Try.prog 47 #[.pointer (some ⟨Bs, 0, none⟩)] (fun x : E64 => #[Value.int .i64 x.1.1, Value.int .i64 x.1.2]) (KeepsBut X) (fun ys => ys = bks zs h64 zs.length) (fun pre => ∃ k, k ≤ zs.length ∧ pre = bks zs h64 k) zs.length w := fun l J Jx W hW _ _ hY h0 =>
  back1_in F n hg hro hn l Bs X a cap zs h64 hlen hX hXa J Jx hY W ((hW.cell (World.block_lt_of_cell? _ _ hc)).trans hc) (hI.below hW) h0

end Go.Proofs.Ytfnoalbnkbifmaa
