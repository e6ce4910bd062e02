/- Small words of our own, used by every text of this seat: what a slice of integers holds in a world, error values, results, one append. -/
import Derived.Test.YtohnimfjekemjaaRows
import Derived.WalkKit
import Derived.WalkSpells
import Derived.WalkLawsBesides
import Derived.Lib.Hide
namespace Go.Proofs.Ytohnimfjekemjaa
open Go.RowKit

/-- In world w the slice at address a holds the numbers xs (its length is xs.length). -/
def Row (w : World) (a : Option Addr) (xs : List Int) : Prop :=
  ∀ i, i < xs.length → ∃ b off, a = some ⟨b, off, none⟩ ∧ w.cell? ⟨b, off + i, none⟩ = some (.int .i64 (xs.getD i 0))

/-- An integer of 64 bits. -/
def I64 (n : Int) : Prop := -9223372036854775808 ≤ n ∧ n ≤ 9223372036854775807
def All64 (xs : List Int) : Prop := ∀ x ∈ xs, I64 x

theorem Row.below {w w' : World} {a : Option Addr} {xs : List Int} (h : Row w a xs) (hb : Below w.heap.size w w') : Row w' a xs := by
  intro i hi
  obtain ⟨b, off, rfl, hc⟩ := h i hi
  exact ⟨b, off, rfl, (hb.cell (World.block_lt_of_cell? w _ hc)).trans hc⟩

theorem Row.nil (w : World) (a : Option Addr) : Row w a [] := fun i hi => by simp at hi

theorem Below.size_le {B : Nat} {w w' : World} (h : Below B w w') : w.heap.size ≤ w'.heap.size := h.size

/-- Two calls one behind the other. -/
theorem below_trans {w w1 w2 : World} (h : Below w.heap.size w w1) (k : Below w1.heap.size w1 w2) : Below w.heap.size w w2 :=
  h.trans (k.mono h.size)

/-- An error by its number: 0 is nil. -/
def errV (n : Int) : Value := if n = 0 then .nilIface else .iface 67 (.int .i64 n)

/-- The result of a call that tells an int and an error. -/
def resI : Except Int Int → Value
  | .ok n => .tuple #[.int .i64 n, .nilIface]
  | .error e => .tuple #[.int .i64 0, .iface 67 (.int .i64 e)]

theorem ret_eq {v u : Value} (h : v = u) : Ending.returned v = .returned u := by rw [h]

theorem ret_int {k : IntKind} {a b : Int} (h : a = b) : Ending.returned (.int k a) = .returned (.int k b) := by rw [h]
theorem ret_bool {a b : Bool} (h : a = b) : Ending.returned (.bool a) = .returned (.bool b) := by rw [h]

/-- The slice value v is the call's own (its cells lie in a block from B on) and holds ys. -/
def Own (w : World) (B : Nat) (v : Value) (ys : List Int) : Prop := w.ownsRow B 3 1 v ys.length (ys.map (Value.int .i64))

theorem Own.nil (w : World) (B : Nat) : Own w B (.slice none 0 0) [] := World.ownsRow_nil _ _ _ _

theorem Own.view {w : World} {B : Nat} {v : Value} {ys : List Int} (h : Own w B v ys) :
    ∃ a c, v = .slice a ys.length c ∧ ys.length ≤ c ∧ c ≤ maxLen ∧ Row w a ys := by
  rcases h.2 with ⟨rfl, hn⟩ | ⟨g, cap, cur, rfl, hb, hg, hnc, hcm, hcs, htake⟩
  · exact ⟨none, 0, by rw [hn], by omega, Nat.zero_le _, fun i hi => by omega⟩
  · refine ⟨_, _, rfl, hnc, hcm, fun i hi => ⟨g, 0, rfl, ?_⟩⟩
    have := h.cellAt i (by omega)
    simpa [hi] using this

theorem Own.low {w : World} {B B' : Nat} {v : Value} {ys : List Int} (h : Own w B v ys) (hB : B' ≤ B) : Own w B' v ys := by
  refine ⟨h.1, ?_⟩
  rcases h.2 with h2 | ⟨g, cap, cur, hv, hg, r⟩
  · exact .inl h2
  · exact .inr ⟨g, cap, cur, hv, by omega, r⟩

/-- What is owned stays so while only blocks beyond turn. -/
theorem Own.below {w w' : World} {B : Nat} {v : Value} {ys : List Int} (h : Own w B v ys) (hb : Below w.heap.size w w') : Own w' B v ys := by
  refine ⟨h.1, ?_⟩
  rcases h.2 with h2 | ⟨g, cap, cur, hv, hg, hh, r⟩
  · exact .inl h2
  · exact .inr ⟨g, cap, cur, hv, hg, by rw [hb.block g (Array.getElem?_eq_some_iff.1 hh).1]; exact hh, r⟩

/-- A slice that the call has just written out. -/
theorem row_lit (w : World) (xs : List Int) (cs : Array Value) (T : TypeId) (h : cs.toList = xs.map (Value.int .i64)) : Row (w.alloc (.cells cs T)) (some ⟨w.heap.size, 0, none⟩) xs := by
  intro i hi
  refine ⟨_, _, rfl, ?_⟩
  rw [Nat.zero_add, World.cell?_alloc_new, ← Array.getElem?_toList, h]
  simp [hi]

/-- .. and another one behind it. -/
theorem row_lit1 (w : World) (o : Obj) (xs : List Int) (cs : Array Value) (T : TypeId) (h : cs.toList = xs.map (Value.int .i64)) : Row ((w.alloc o).alloc (.cells cs T)) (some ⟨w.heap.size + 1, 0, none⟩) xs := by
  have := row_lit (w.alloc o) xs cs T h
  simpa using this

theorem Row.alloc {w : World} {a : Option Addr} {xs : List Int} (h : Row w a xs) (o : Obj) : Row (w.alloc o) a xs :=
  h.below ((Below.refl _ w).alloc (Nat.le_refl _) o)

theorem below_drewN {B : Nat} {a w : World} (h : Below B a w) (n : Nat) : Below B a (w.drewN n) := ⟨h.os, h.tape, h.output, h.size, h.block⟩
theorem Row.drewN {w : World} {a : Option Addr} {xs : List Int} (h : Row w a xs) (n : Nat) : Row (w.drewN n) a xs := h

theorem Try.infoInt : (Try.prog.info? 3).map (fun i => (i.zero, i.size, i.bytes)) = some (some (.int .i64 0), 1, 8) := by kernel_rfl

/-- out = append(out, n), out the call's own. -/
theorem app_int {w : World} {ops : Array Oper} {rest : List Oper} {o : Oper} {a : Act} {Q : Exit → Act → World → Prop} (hgd : o.guard = none) (s x : Operand)
    (ho : o.op = .call { callee := .builtin .append, args := #[s, x], argTypes := #[22, 22] })
    (B : Nat) (v : Value) (ys : List Int) (n : Int) (hs : a.eval s = v) (hown : Own w B v ys) (hx : a.eval x = .slice (some ⟨w.heap.size, 0, none⟩) 1 1)
    (hlen : ys.length < 17592186044416) (hB : B ≤ w.heap.size)
    (h : ∀ v' w', Own w' B v' (ys ++ [n]) → Below B w w' → w.heap.size < w'.heap.size → wpList Try.prog ops Q rest (a.put o.dst v') w') :
    wpList Try.prog ops Q (o :: rest) a (w.alloc (.cells #[.int .i64 n] 3)) := by
  obtain ⟨i0, hi, hz0, hz1, hz2⟩ := info_parts Try.infoInt
  refine wpList_append_own _ hgd s x 22 ho B 3 i0 (.int .i64 0) 1 8 Try.underlying22 hi hz0 hz1 hz2 rfl (by decide) v _ _ hs (hown.alloc _)
    ⟨w.heap.size, 0, none⟩ 1 1 [.int .i64 n] hx rfl ?_ ?_ (by simp only [maxLen]; omega) (by omega) (by simp; omega) ?_
  · intro j u hj
    match j, hj with
    | 0, hj => simp at hj; subst hj; simp [Addr.add]
  · intro u hu; simp at hu; subst hu; rfl
  · intro v' w' h1 h2 _
    refine h v' w' (by unfold Own; simpa using h1) ?_ ?_
    · exact (((Below.refl B w).alloc hB _).grown h2 (by simp; omega) (fun k hk => by
        rcases hown.2 with ⟨rfl, _⟩ | ⟨g, cap, cur, rfl, hg, _⟩
        · simp [Value.ownBlock] at hk
        · simp [Value.ownBlock] at hk; omega))
    · have := h2.size; simp at this; omega

end Go.Proofs.Ytohnimfjekemjaa
