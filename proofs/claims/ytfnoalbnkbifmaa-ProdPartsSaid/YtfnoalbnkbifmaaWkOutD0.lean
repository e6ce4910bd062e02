/- Plain facts for the walk of prod.Outer. Condition: rows that lie as lists of ints of 64 bits. -/
import Derived.Test.YtfnoalbnkbifmaaOutPlain
import Derived.Test.YtfnoalbnkbifmaaOutAt
namespace Go.Proofs.Ytfnoalbnkbifmaa
open Go.RowKit

theorem OutAt.drewN {w wB wr : World} {N B : Nat} {ch : Bool} {sv dv : Value} {ys : List Int} (h : OutAt w wB N B ch sv dv ys wr) (n : Nat) : OutAt w wB N B ch sv dv ys (wr.drewN n) :=
  ⟨h.1, h.2.1, below_drewN h.2.2.1 n, h.2.2.2.1, h.2.2.2.2⟩
theorem own_ltR {w : World} {B l c : Nat} {a : Option Addr} {ys : List Int} (h : Own w B (.slice a l c) ys) : ∀ p, a = some p → B ≤ p.block ∧ p.block < w.heap.size := fun p e => by
  rcases h.2 with ⟨hv, _⟩ | ⟨g, cap, cur, hv, hg, hh, _⟩
  · rw [e] at hv; cases hv
  · rw [e] at hv; cases hv; exact ⟨hg, (Array.getElem?_eq_some_iff.1 hh).1⟩
theorem flaws_parts {x y : Arr} (hf : M.flaws x y = 0) : M.flaw x.ch x.s x.d = 0 ∧ M.flaw y.ch y.s y.d = 0 := by
  have h1 : M.flaw x.ch x.s x.d = 0 := by unfold M.flaws at hf; split at hf <;> first | assumption | (rename_i h; exact absurd hf h)
  exact ⟨h1, by unfold M.flaws at hf; rw [if_pos h1] at hf; exact hf⟩

end Go.Proofs.Ytfnoalbnkbifmaa
