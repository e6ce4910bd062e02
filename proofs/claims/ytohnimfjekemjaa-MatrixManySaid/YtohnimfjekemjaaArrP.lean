/- Arrays as plain data, what calls leave that tell arrays; cells that stay. No condition. -/
import Derived.Test.YtohnimfjekemjaaArr
import Derived.Test.YtohnimfjekemjaaCyc
import Derived.Test.YtohnimfjekemjaaPlainShape
namespace Go.Proofs.Ytohnimfjekemjaa
open Go.RowKit

/-- An array, as plain data. -/
structure Arr where
  ch : Bool
  s : List Int
  d : List Int
deriving DecidableEq

namespace M
def fill (ch : Bool) : Int := if ch then 32 else 0
def reshape (s : List Int) (x : Arr) : Except Int Arr :=
  match count s with
  | .error e => .error e
  | .ok n => if flaw x.ch x.s x.d = 0 then .ok ⟨x.ch, s, cycle x.d n.toNat (fill x.ch)⟩ else .error (flaw x.ch x.s x.d)
def iota (n : Int) : Except Int Arr := if n < 0 then .error 6 else if 4096 < n then .error 7 else .ok ⟨false, [n], (List.range n.toNat).map (fun (i : Nat) => (i : Int))⟩
end M

/-- What a call that tells an array, or an error, leaves. -/
def ArrPost (r : Except Int Arr) (w : World) (e : Ending) (w' : World) : Prop :=
  (∀ n, r = .error n → e = .returned (.tuple #[arrV false none 0 0 none 0 0, .iface 67 (.int .i64 n)])) ∧
  (∀ x, r = .ok x → ∃ a c b k, e = .returned (.tuple #[arrV x.ch a x.s.length c b x.d.length k, .nilIface]) ∧ Row w' a x.s ∧ Row w' b x.d) ∧
  Below w.heap.size w w'

theorem ArrPost.error {r : Except Int Arr} {w w' : World} {e : Ending} {n : Int} (h : r = .error n) (he : e = .returned (.tuple #[arrV false none 0 0 none 0 0, .iface 67 (.int .i64 n)])) (hb : Below w.heap.size w w') : ArrPost r w e w' := by
  subst h; exact ⟨fun m hm => by cases hm; exact he, fun x hx => (by cases hx), hb⟩
theorem ArrPost.ok {r : Except Int Arr} {w w' : World} {e : Ending} {x : Arr} {a b : Option Addr} {c k : Nat} (h : r = .ok x) (he : e = .returned (.tuple #[arrV x.ch a x.s.length c b x.d.length k, .nilIface])) (h1 : Row w' a x.s) (h2 : Row w' b x.d) (hb : Below w.heap.size w w') : ArrPost r w e w' := by
  subst h; exact ⟨fun m hm => (by cases hm), fun y hy => by cases hy; exact ⟨a, c, b, k, he, h1, h2⟩, hb⟩
theorem ArrPost.is_error {r : Except Int Arr} {w w' : World} {e : Ending} {n : Int} (h : ArrPost r w e w') (hr : r = .error n) : e = .returned (.tuple #[arrV false none 0 0 none 0 0, .iface 67 (.int .i64 n)]) ∧ Below w.heap.size w w' := ⟨h.1 n hr, h.2.2⟩
theorem ArrPost.is_ok {r : Except Int Arr} {w w' : World} {e : Ending} {x : Arr} (h : ArrPost r w e w') (hr : r = .ok x) :
    ∃ a c b k, e = .returned (.tuple #[arrV x.ch a x.s.length c b x.d.length k, .nilIface]) ∧ Row w' a x.s ∧ Row w' b x.d ∧ Below w.heap.size w w' := by
  obtain ⟨a, c, b, k, h1, h2, h3⟩ := h.2.1 x hr; exact ⟨a, c, b, k, h1, h2, h3, h.2.2⟩

/-- Three cells stay. -/
theorem held3 {w w' : World} {N : Nat} {x y z : Value} (hb : Below w.heap.size w w') (h : w.cell? ⟨N, 0, none⟩ = some x ∧ w.cell? ⟨N, 1, none⟩ = some y ∧ w.cell? ⟨N, 2, none⟩ = some z) :
    w'.cell? ⟨N, 0, none⟩ = some x ∧ w'.cell? ⟨N, 1, none⟩ = some y ∧ w'.cell? ⟨N, 2, none⟩ = some z :=
  ⟨(hb.cell (World.block_lt_of_cell? w _ h.1)).trans h.1, (hb.cell (World.block_lt_of_cell? w _ h.2.1)).trans h.2.1, (hb.cell (World.block_lt_of_cell? w _ h.2.2)).trans h.2.2⟩
theorem cell?_set_same (w : World) (a : Addr) (v : Value) (h : (w.cell? a).isSome = true) : (w.setCell a v).cell? a = some v := by
  obtain ⟨o, ho⟩ := Option.isSome_iff_exists.1 h
  exact World.cell?_setCell_same _ _ _ ho
theorem frozen3 {w w' : World} {N : Nat} (hb : Below w.heap.size w w') (hN : N < w.heap.size) (h : w.frozen? ⟨N, 0, none⟩ = false ∧ w.frozen? ⟨N, 1, none⟩ = false ∧ w.frozen? ⟨N, 2, none⟩ = false) :
    w'.frozen? ⟨N, 0, none⟩ = false ∧ w'.frozen? ⟨N, 1, none⟩ = false ∧ w'.frozen? ⟨N, 2, none⟩ = false :=
  ⟨(hb.frozen (by exact hN)).trans h.1, (hb.frozen (by exact hN)).trans h.2.1, (hb.frozen (by exact hN)).trans h.2.2⟩

/-- The result of a call that tells a bool and an error. -/
def resB : Except Int Bool → Value
  | .ok b => .tuple #[.bool b, .nilIface]
  | .error e => .tuple #[.bool false, .iface 67 (.int .i64 e)]

namespace M
def same (x y : Arr) : Except Int Bool :=
  if flaw x.ch x.s x.d = 0 then (if flaw y.ch y.s y.d = 0 then .ok (decide (x = y)) else .error (flaw y.ch y.s y.d)) else .error (flaw x.ch x.s x.d)
end M

theorem arr_eq (x y : Arr) : decide (x = y) = (decide (x.ch = y.ch) && (decide (x.s = y.s) && decide (x.d = y.d))) := by
  cases x; cases y
  simp only [Arr.mk.injEq]
  rw [Bool.decide_and, Bool.decide_and]

theorem same_ok {x y : Arr} (hx : M.flaw x.ch x.s x.d = 0) (hy : M.flaw y.ch y.s y.d = 0) : M.same x y = .ok (decide (x = y)) := by
  unfold M.same; rw [if_pos hx, if_pos hy]

theorem flaw_parts {ch : Bool} {s d : List Int} (h : M.flaw ch s d = 0) : ∃ q, M.count s = .ok q ∧ (d.length : Int) = q := by
  unfold M.flaw at h
  split at h
  · rename_i e he
    exact absurd h (count_ne he)
  · rename_i n hn
    split at h
    · cases h
    · rename_i hl
      exact ⟨n, hn, Decidable.of_not_not hl⟩

theorem flaw_len {ch : Bool} {s d : List Int} (h : M.flaw ch s d = 0) : d.length ≤ 4096 ∧ s.length ≤ 6 := by
  unfold M.flaw at h
  split at h
  · rename_i e he
    exact absurd h (count_ne he)
  · rename_i n hn
    have hc := M.count_ok hn
    split at h
    · cases h
    · rename_i hl
      have : (d.length : Int) = n := Decidable.of_not_not hl
      exact ⟨by omega, hc.1⟩

end Go.Proofs.Ytohnimfjekemjaa
