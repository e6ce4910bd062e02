/- What a call that tells an array alone leaves. No condition. -/
import Derived.Test.YtohnimfjekemjaaArrP
namespace Go.Proofs.Ytohnimfjekemjaa
open Go.RowKit

/-- What a call that tells an array alone leaves. -/
def VecPost (x : Arr) (w : World) (e : Ending) (w' : World) : Prop :=
  ∃ a c b k, e = .returned (arrV x.ch a x.s.length c b x.d.length k) ∧ Row w' a x.s ∧ Row w' b x.d ∧ Below w.heap.size w w'
/-- In a block from here on. -/
def Fresh (w : World) (a : Option Addr) : Prop := ∀ p, a = some p → w.heap.size ≤ p.block
theorem Fresh.none (w : World) : Fresh w none := fun p h => by cases h
theorem Fresh.mono {w w' : World} {a : Option Addr} (h : Fresh w' a) (hs : w.heap.size ≤ w'.heap.size) : Fresh w a := fun p e => Nat.le_trans hs (h p e)
theorem own_fresh {w : World} {B : Nat} {a : Option Addr} {n c : Nat} {ys : List Int} (h : Own w B (.slice a n c) ys) : ∀ p, a = some p → B ≤ p.block := by
  intro p e
  subst e
  rcases h.2 with ⟨e, _⟩ | ⟨g, cap, cur, e, hb, _⟩
  · simp at e
  · simp at e
    rw [e.1]; exact hb
/-- .. and both its rows in new blocks. -/
def VecPostF (x : Arr) (w : World) (e : Ending) (w' : World) : Prop :=
  ∃ a c b k, e = .returned (arrV x.ch a x.s.length c b x.d.length k) ∧ Row w' a x.s ∧ Row w' b x.d ∧ Fresh w a ∧ Fresh w b ∧ x.s.length ≤ c ∧ Below w.heap.size w w'
/-- What a call that tells an array in new memory, or an error, leaves. -/
def ArrPostF (r : Except Int Arr) (w : World) (e : Ending) (w' : World) : Prop :=
  (∀ n, r = .error n → e = .returned (.tuple #[arrV false none 0 0 none 0 0, .iface 67 (.int .i64 n)])) ∧
  (∀ x, r = .ok x → ∃ a c b k, e = .returned (.tuple #[arrV x.ch a x.s.length c b x.d.length k, .nilIface]) ∧ Row w' a x.s ∧ Row w' b x.d ∧ Fresh w a ∧ Fresh w b ∧ x.s.length ≤ c) ∧
  Below w.heap.size w w'
theorem ArrPostF.error {r : Except Int Arr} {w w' : World} {e : Ending} {n : Int} (h : r = .error n) (he : e = .returned (.tuple #[arrV false none 0 0 none 0 0, .iface 67 (.int .i64 n)])) (hb : Below w.heap.size w w') : ArrPostF r w e w' := by
  subst h; exact ⟨fun m hm => by cases hm; exact he, fun x hx => (by cases hx), hb⟩
theorem ArrPostF.ok {r : Except Int Arr} {w w' : World} {e : Ending} {x : Arr} {a b : Option Addr} {c k : Nat} (h : r = .ok x) (he : e = .returned (.tuple #[arrV x.ch a x.s.length c b x.d.length k, .nilIface])) (h1 : Row w' a x.s) (h2 : Row w' b x.d)
    (f1 : Fresh w a) (f2 : Fresh w b) (hcap : x.s.length ≤ c) (hb : Below w.heap.size w w') : ArrPostF r w e w' := by
  subst h; exact ⟨fun m hm => (by cases hm), fun y hy => by cases hy; exact ⟨a, c, b, k, he, h1, h2, f1, f2, hcap⟩, hb⟩
theorem ArrPostF.is_error {r : Except Int Arr} {w w' : World} {e : Ending} {n : Int} (h : ArrPostF r w e w') (hr : r = .error n) : e = .returned (.tuple #[arrV false none 0 0 none 0 0, .iface 67 (.int .i64 n)]) ∧ Below w.heap.size w w' := ⟨h.1 n hr, h.2.2⟩
theorem ArrPostF.is_ok {r : Except Int Arr} {w w' : World} {e : Ending} {x : Arr} (h : ArrPostF r w e w') (hr : r = .ok x) :
    ∃ a c b k, e = .returned (.tuple #[arrV x.ch a x.s.length c b x.d.length k, .nilIface]) ∧ Row w' a x.s ∧ Row w' b x.d ∧ Fresh w a ∧ Fresh w b ∧ x.s.length ≤ c ∧ Below w.heap.size w w' := by
  obtain ⟨a, c, b, k, h1, h2, h3, h4, h5, h6⟩ := h.2.1 x hr; exact ⟨a, c, b, k, h1, h2, h3, h4, h5, h6, h.2.2⟩

end Go.Proofs.Ytohnimfjekemjaa
