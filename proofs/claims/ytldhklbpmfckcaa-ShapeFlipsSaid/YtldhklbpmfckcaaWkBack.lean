/- The helper Backwards of the statements returns M.backwards of its list, in new memory; nothing that was there turns. Condition: the slice reads as a list of ints shorter than 2^44. -/
import Derived.Test.YtldhklbpmfckcaaWkAt
namespace Go.Proofs.Ytldhklbpmfckcaa
open Go.RowKit
namespace M

def backFrom (n : Nat) : List Int → Nat → List Int → List Int
  | out, _, [] => out
  | out, i, x :: p => backFrom n (if 0 ≤ x ∧ x < (n : Int) then out.set x.toNat (i : Int) else out) (i + 1) p

def backwards (p : List Int) : List Int := backFrom p.length (List.replicate p.length 0) 0 p

end M

theorem backFrom_drop {p : List Int} {k : Nat} (n : Nat) (out : List Int) (h : k < p.length) :
    M.backFrom n out k (p.drop k) = M.backFrom n (if 0 ≤ p.getD k 0 ∧ p.getD k 0 < (n : Int) then out.set (p.getD k 0).toNat (k : Int) else out) (k + 1) (p.drop (k + 1)) := by
  rw [List.drop_eq_getElem_cons h]; simp [M.backFrom, List.getD_eq_getElem?_getD, h]

set_option maxHeartbeats 1000000 in
theorem backwards_any (a : Option Addr) (p : List Int) (n c : Nat) (w : World) (hp : Row w a p) (hm : p.length < 17592186044416) (en : n = p.length) :
    Calls Try.prog 21 #[.slice a n c] w fun e w' => ∃ v, e = .returned v ∧ Own w' w.heap.size v (M.backwards p) ∧ Below w.heap.size w w' := by
  subst en
  have hmk := run_make_ints p.length hm
  go_enter Try.func21, Try.ntmps21
  go_wp2
  go_loopw [4] (fun i wr => ∃ k : Nat, k ≤ p.length ∧ i = .int .i64 k ∧ ∃ out : List Int, out.length = p.length ∧ M.backwards p = M.backFrom p.length out k (p.drop k) ∧
      wr.heap[w.heap.size]? = some (.cells (cellsOf out) 3 (0, 0)) ∧ Below w.heap.size w wr) (fun i _ => p.length - (intOf i).toNat)
  case atStart =>
    refine ⟨0, Nat.zero_le _, rfl, List.replicate p.length 0, by simp, rfl, ?_, (Below.refl _ w).alloc (Nat.le_refl _) _⟩
    rw [heap_alloc_new]
    simp [zeroCells, cellsOf]
  case round =>
    obtain ⟨k, hk, rfl, out, hol, hax, hou, hbel⟩ := hrel
    clear hmk
    replace hax := Lib.hid hax
    replace hol := Lib.hid hol
    by_cases hlt : k < p.length
    · obtain ⟨b1, o1, rfl, hc⟩ := hp.below hbel k hlt
      have hd := Lib.hid (backFrom_drop p.length out hlt)
      have e0 : p.getD k 0 = p[k] := by simp [hlt]
      rw [e0] at hd
      clear e0
      by_cases t1 : p[k] < 0
      · have hx := hax.out
        rw [hd.out, if_neg (by omega)] at hx
        replace hx := Lib.hid hx
        replace hou := Lib.hid hou
        go_wp2
        go_roundw
        case rel => exact ⟨k + 1, by omega, by go_num, out, hol.out, hx.out, hou.out, hbel⟩
        case measure => simp [intOf]; omega
      by_cases t2 : (p.length : Int) ≤ p[k]
      · have hx := hax.out
        rw [hd.out, if_neg (by omega)] at hx
        replace hx := Lib.hid hx
        replace hou := Lib.hid hou
        go_wp2
        go_roundw
        case rel => exact ⟨k + 1, by omega, by go_num, out, hol.out, hx.out, hou.out, hbel⟩
        case measure => simp [intOf]; omega
      have t0 : 0 ≤ p[k] := by omega
      have t3 : p[k] < (p.length : Int) := by omega
      have hx := hax.out
      rw [hd.out, if_pos ⟨t0, t3⟩] at hx
      replace hx := Lib.hid hx
      have hoc := block_cell hou (show p[k].toNat < out.length by have := hol.out; omega)
      have hof := frozen_of_row wr w.heap.size p[k].toNat _ 3 hou
      have hou' := Lib.hid (block_set hou p[k].toNat (k : Int))
      replace hou := Lib.hid hou
      clear t1 t2 hd
      go_wp2
      go_roundw
      case rel => exact ⟨k + 1, by omega, by go_num, _, by simpa using hol.out, hx.out, hou'.out, hbel.setCell (p := ⟨w.heap.size, p[k].toNat, none⟩) (Nat.le_refl _) _⟩
      case measure => simp [intOf]; omega
    · have hx := hax.out
      rw [List.drop_eq_nil_of_le (by omega)] at hx
      have hf := Lib.hid (show M.backwards p = out from hx)
      replace hou := Lib.hid hou
      clear hx
      go_wp2
      go_ret
      exact ⟨_, rfl, by rw [hf.out]; exact own_of_block hou.out (by omega) hol.out.symm (by have := hol.out; unfold maxLen; omega), hbel⟩

end Go.Proofs.Ytldhklbpmfckcaa
