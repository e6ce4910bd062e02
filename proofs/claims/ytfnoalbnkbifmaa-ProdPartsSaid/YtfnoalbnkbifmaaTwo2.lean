/- Functions of two numbers on the cells of two arrays, in plain data. No condition. -/
import Derived.Test.YtfnoalbnkbifmaaBdA
namespace Go.Proofs.Ytfnoalbnkbifmaa
open Go.RowKit

namespace M
/-- A function of two numbers? -/
def fn2 (f : Int) : Bool := decide (1 ≤ f ∧ f ≤ 16)
/-- 1 where one of the two is no such function. -/
def unk (f g : Int) : Int := if (fn2 f && fn2 g) = true then 0 else 1
def cmp (f : Int) : Bool := f == 8 || f == 9
def flaws (x y : Arr) : Int := if flaw x.ch x.s x.d = 0 then flaw y.ch y.s y.d else flaw x.ch x.s x.d
/-- Two arrays' cells. -/
def tw (g : Int) (c1 c2 : Bool) (a b : Int) : Except Int Int := if c1 = c2 then two g a b else .ok (if g = 9 then 1 else 0)
end M

theorem two_known {f : Int} (h : M.fn2 f = true) : ∃ v, M.two f 0 1 = .ok v := by
  have h1 : 1 ≤ f ∧ f ≤ 16 := of_decide_eq_true h
  have hs : f = 1 ∨ f = 2 ∨ f = 3 ∨ f = 4 ∨ f = 5 ∨ f = 6 ∨ f = 7 ∨ f = 8 ∨ f = 9 ∨ f = 10 ∨ f = 11 ∨ f = 12 ∨ f = 13 ∨ f = 14 ∨ f = 15 ∨ f = 16 := by omega
  rcases hs with rfl | rfl | rfl | rfl | rfl | rfl | rfl | rfl | rfl | rfl | rfl | rfl | rfl | rfl | rfl | rfl <;> exact ⟨_, rfl⟩
theorem two_unknown {f : Int} (h : M.fn2 f = false) (a b : Int) : M.two f a b = .error 1 := by
  have h1 : ¬ (1 ≤ f ∧ f ≤ 16) := of_decide_eq_false h
  unfold M.two
  repeat rw [if_neg (by omega)]

end Go.Proofs.Ytfnoalbnkbifmaa
