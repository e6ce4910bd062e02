/- One append of an int to an own slice outside a drawn region, the slice told as it stands behind it. Condition: fewer than 2^44 ints. -/
import Derived.Test.YtiebknfmmanbiaaDoorBdA
namespace Go.Proofs.YtiebknfmmanbiaaDoor
open Go.RowKit

theorem app_int2 {w : World} {ops : Array Oper} {rest : List Oper} {o : Oper} {a : Act} {Q : Exit → Act → World → Prop} (hgd : o.guard = none) (s x : Operand)
    (ho : o.op = .call { callee := .builtin .append, args := #[s, x], argTypes := #[22, 22] })
    (B : Nat) (v : Value) (ys : List Int) (n : Int) (hs : a.eval s = v) (hown : Own w B v ys) (hx : a.eval x = .slice (some ⟨w.heap.size, 0, none⟩) 1 1)
    (hlen : ys.length < 17592186044416) (hB : B ≤ w.heap.size) (m : Nat) (em : m = ys.length + 1)
    (h : ∀ a' c' w', Own w' B (.slice a' m c') (ys ++ [n]) → Below B w w' → w.heap.size < w'.heap.size → wpList Tryd.prog ops Q rest (a.put o.dst (.slice a' m c')) w') :
    wpList Tryd.prog ops Q (o :: rest) a (w.alloc (.cells #[.int .i64 n] 3)) := by
  refine app_int hgd s x ho B v ys n hs hown hx hlen hB fun v' w' h1 h2 h3 => ?_
  obtain ⟨a', c', rfl, -, -, -⟩ := h1.view
  have e : (ys ++ [n]).length = m := by rw [em]; simp
  rw [e] at h1 ⊢
  exact h a' c' w' h1 h2 h3
end Go.Proofs.YtiebknfmmanbiaaDoor
