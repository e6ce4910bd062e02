/- Each with each, as plain lists. No program in sight; no condition. -/
import Derived.Test.YtfnoalbnkbifmaaPlainInner
namespace Go.Proofs.Ytfnoalbnkbifmaa
open Go.RowKit

namespace M
/-- The cell at a place of the table. -/
def outC (f : Int) (c1 c2 : Bool) (d d' : List Int) (q : Nat) : Except Int Int := tw f c1 c2 (d.getD (q / d'.length) 0) (d'.getD (q % d'.length) 0)
def outer (f : Int) (x y : Arr) : Except Int Arr :=
  if ¬ fn2 f = true then .error 1
  else if flaws x y ≠ 0 then .error (flaws x y)
  else match count (x.s ++ y.s) with
  | .error e => .error e
  | .ok _ => if ((x.ch || y.ch) && !cmp f) = true then .error 6
    else match seqE (x.d.length * y.d.length) (outC f x.ch y.ch x.d y.d) with
    | .error e => .error e
    | .ok l => .ok ⟨false, x.s ++ y.s, l⟩
end M

theorem outC_at {f : Int} {c1 c2 : Bool} {d d' : List Int} {i j k : Nat} (hk : d'.length = k) (hj : j < k) : M.outC f c1 c2 d d' (i * k + j) = M.tw f c1 c2 (d.getD i 0) (d'.getD j 0) := by
  have e1 : (i * k + j) / k = i := by rw [Nat.mul_comm, Nat.mul_add_div (by omega), Nat.div_eq_of_lt hj, Nat.add_zero]
  have e2 : (i * k + j) % k = j := by rw [Nat.mul_comm, Nat.mul_add_mod, Nat.mod_eq_of_lt hj]
  unfold M.outC
  rw [hk, e1, e2]
theorem outer_sizes {ch ch' : Bool} {s s' d d' : List Int} {N : Int} (ha : M.flaw ch s d = 0) (hb : M.flaw ch' s' d' = 0) (hc : M.count (s ++ s') = .ok N) :
    N = ((d.length * d'.length : Nat) : Int) ∧ d.length * d'.length ≤ 4096 ∧ d.length ≤ 4096 ∧ d'.length ≤ 4096 := by
  obtain ⟨q1, h1, e1⟩ := flaw_parts ha
  obtain ⟨q2, h2, e2⟩ := flaw_parts hb
  obtain ⟨_, a2, a3, a4, a5⟩ := M.count_ok h1
  obtain ⟨_, b2, b3, b4, b5⟩ := M.count_ok h2
  obtain ⟨_, _, c3, c4, c5⟩ := M.count_ok hc
  rw [prod_append, ← a3, ← b3] at c3
  have m1 : ((d.length * d'.length : Nat) : Int) = (d.length : Int) * (d'.length : Int) := by simp
  have e1' : q1 = (d.length : Int) := by omega
  have e2' : q2 = (d'.length : Int) := by omega
  rw [e1', e2', ← m1] at c3
  exact ⟨c3, by omega, by omega, by omega⟩
end Go.Proofs.Ytfnoalbnkbifmaa
