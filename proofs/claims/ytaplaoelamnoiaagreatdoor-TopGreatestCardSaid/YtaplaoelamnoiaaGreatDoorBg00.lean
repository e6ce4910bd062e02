/- Texts that lie in one file: what is plain, rows, boxes, squares, and what is known of a world. No condition. -/
import Derived.Test.YtaplaoelamnoiaaGreatDoorRows
import Derived.WalkKit
import Derived.WalkSpells
import Derived.WalkLawsBesides
import Derived.Lib.Hide
/- Small words of our own, used by every text of this seat: what a slice of integers holds in a world, error values, results, one append. -/
namespace Go.Proofs.YtaplaoelamnoiaaGreatDoor
open Go.RowKit

/-- In world w the slice at address a holds the numbers xs (its length is xs.length). -/
def Row (w : World) (a : Option Addr) (xs : List Int) : Prop :=
  ∀ i, i < xs.length → ∃ b off, a = some ⟨b, off, none⟩ ∧ w.cell? ⟨b, off + i, none⟩ = some (.int .i64 (xs.getD i 0))

/-- An integer of 64 bits. -/
def I64 (n : Int) : Prop := -9223372036854775808 ≤ n ∧ n ≤ 9223372036854775807
def All64 (xs : List Int) : Prop := ∀ x ∈ xs, I64 x

theorem Row.below {w w' : World} {a : Option Addr} {xs : List Int} (h : Row w a xs) (hb : Below w.heap.size w w') : Row w' a xs := by
  intro i hi
  obtain ⟨b, off, rfl, hc⟩ := h i hi
  exact ⟨b, off, rfl, (hb.cell (World.block_lt_of_cell? w _ hc)).trans hc⟩

theorem Row.nil (w : World) (a : Option Addr) : Row w a [] := fun i hi => by simp at hi

theorem Below.size_le {B : Nat} {w w' : World} (h : Below B w w') : w.heap.size ≤ w'.heap.size := h.size

/-- Two calls one behind the other. -/
theorem below_trans {w w1 w2 : World} (h : Below w.heap.size w w1) (k : Below w1.heap.size w1 w2) : Below w.heap.size w w2 :=
  h.trans (k.mono h.size)

/-- An error by its number: 0 is nil. -/
def errV (n : Int) : Value := if n = 0 then .nilIface else .iface 46 (.int .i64 n)

/-- The result of a call that tells an int and an error. -/
def resI : Except Int Int → Value
  | .ok n => .tuple #[.int .i64 n, .nilIface]
  | .error e => .tuple #[.int .i64 0, .iface 46 (.int .i64 e)]

theorem ret_eq {v u : Value} (h : v = u) : Ending.returned v = .returned u := by rw [h]

theorem ret_int {k : IntKind} {a b : Int} (h : a = b) : Ending.returned (.int k a) = .returned (.int k b) := by rw [h]
theorem ret_bool {a b : Bool} (h : a = b) : Ending.returned (.bool a) = .returned (.bool b) := by rw [h]

/-- The slice value v is the call's own (its cells lie in a block from B on) and holds ys. -/
def Own (w : World) (B : Nat) (v : Value) (ys : List Int) : Prop := w.ownsRow B 3 1 v ys.length (ys.map (Value.int .i64))

theorem Own.nil (w : World) (B : Nat) : Own w B (.slice none 0 0) [] := World.ownsRow_nil _ _ _ _

theorem Own.view {w : World} {B : Nat} {v : Value} {ys : List Int} (h : Own w B v ys) :
    ∃ a c, v = .slice a ys.length c ∧ ys.length ≤ c ∧ c ≤ maxLen ∧ Row w a ys := by
  rcases h.2 with ⟨rfl, hn⟩ | ⟨g, cap, cur, rfl, hb, hg, hnc, hcm, hcs, htake⟩
  · exact ⟨none, 0, by rw [hn], by omega, Nat.zero_le _, fun i hi => by omega⟩
  · refine ⟨_, _, rfl, hnc, hcm, fun i hi => ⟨g, 0, rfl, ?_⟩⟩
    have := h.cellAt i (by omega)
    simpa [hi] using this

theorem Own.low {w : World} {B B' : Nat} {v : Value} {ys : List Int} (h : Own w B v ys) (hB : B' ≤ B) : Own w B' v ys := by
  refine ⟨h.1, ?_⟩
  rcases h.2 with h2 | ⟨g, cap, cur, hv, hg, r⟩
  · exact .inl h2
  · exact .inr ⟨g, cap, cur, hv, by omega, r⟩

/-- What is owned stays so while only blocks beyond turn. -/
theorem Own.below {w w' : World} {B : Nat} {v : Value} {ys : List Int} (h : Own w B v ys) (hb : Below w.heap.size w w') : Own w' B v ys := by
  refine ⟨h.1, ?_⟩
  rcases h.2 with h2 | ⟨g, cap, cur, hv, hg, hh, r⟩
  · exact .inl h2
  · exact .inr ⟨g, cap, cur, hv, hg, by rw [hb.block g (Array.getElem?_eq_some_iff.1 hh).1]; exact hh, r⟩

/-- A slice that the call has just written out. -/
theorem row_lit (w : World) (xs : List Int) (cs : Array Value) (T : TypeId) (h : cs.toList = xs.map (Value.int .i64)) : Row (w.alloc (.cells cs T)) (some ⟨w.heap.size, 0, none⟩) xs := by
  intro i hi
  refine ⟨_, _, rfl, ?_⟩
  rw [Nat.zero_add, World.cell?_alloc_new, ← Array.getElem?_toList, h]
  simp [hi]

/-- .. and another one behind it. -/
theorem row_lit1 (w : World) (o : Obj) (xs : List Int) (cs : Array Value) (T : TypeId) (h : cs.toList = xs.map (Value.int .i64)) : Row ((w.alloc o).alloc (.cells cs T)) (some ⟨w.heap.size + 1, 0, none⟩) xs := by
  have := row_lit (w.alloc o) xs cs T h
  simpa using this

theorem Row.alloc {w : World} {a : Option Addr} {xs : List Int} (h : Row w a xs) (o : Obj) : Row (w.alloc o) a xs :=
  h.below ((Below.refl _ w).alloc (Nat.le_refl _) o)

theorem below_drewN {B : Nat} {a w : World} (h : Below B a w) (n : Nat) : Below B a (w.drewN n) := ⟨h.os, h.tape, h.output, h.size, h.block⟩
theorem Row.drewN {w : World} {a : Option Addr} {xs : List Int} (h : Row w a xs) (n : Nat) : Row (w.drewN n) a xs := h

theorem Tryz.infoInt : (Tryz.prog.info? 3).map (fun i => (i.zero, i.size, i.bytes)) = some (some (.int .i64 0), 1, 8) := by kernel_rfl

/-- out = append(out, n), out the call's own. -/
theorem app_int {w : World} {ops : Array Oper} {rest : List Oper} {o : Oper} {a : Act} {Q : Exit → Act → World → Prop} (hgd : o.guard = none) (s x : Operand)
    (ho : o.op = .call { callee := .builtin .append, args := #[s, x], argTypes := #[22, 22] })
    (B : Nat) (v : Value) (ys : List Int) (n : Int) (hs : a.eval s = v) (hown : Own w B v ys) (hx : a.eval x = .slice (some ⟨w.heap.size, 0, none⟩) 1 1)
    (hlen : ys.length < 17592186044416) (hB : B ≤ w.heap.size)
    (h : ∀ v' w', Own w' B v' (ys ++ [n]) → Below B w w' → w.heap.size < w'.heap.size → wpList Tryz.prog ops Q rest (a.put o.dst v') w') :
    wpList Tryz.prog ops Q (o :: rest) a (w.alloc (.cells #[.int .i64 n] 3)) := by
  obtain ⟨i0, hi, hz0, hz1, hz2⟩ := info_parts Tryz.infoInt
  refine wpList_append_own _ hgd s x 22 ho B 3 i0 (.int .i64 0) 1 8 Tryz.underlying22 hi hz0 hz1 hz2 rfl (by decide) v _ _ hs (hown.alloc _)
    ⟨w.heap.size, 0, none⟩ 1 1 [.int .i64 n] hx rfl ?_ ?_ (by simp only [maxLen]; omega) (by omega) (by simp; omega) ?_
  · intro j u hj
    match j, hj with
    | 0, hj => simp at hj; subst hj; simp [Addr.add]
  · intro u hu; simp at hu; subst hu; rfl
  · intro v' w' h1 h2 _
    refine h v' w' (by unfold Own; simpa using h1) ?_ ?_
    · exact (((Below.refl B w).alloc hB _).grown h2 (by simp; omega) (fun k hk => by
        rcases hown.2 with ⟨rfl, _⟩ | ⟨g, cap, cur, rfl, hg, _⟩
        · simp [Value.ownBlock] at hk
        · simp [Value.ownBlock] at hk; omega))
    · have := h2.size; simp at this; omega

end Go.Proofs.YtaplaoelamnoiaaGreatDoor

/- Worlds that differ in one block alone. No condition. -/
namespace Go.Proofs.YtaplaoelamnoiaaGreatDoor
open Go.RowKit

/-- All blocks but one are as they were. -/
def But (g : Nat) (w w' : World) : Prop := ∀ b, b < w.heap.size → b ≠ g → w'.heap[b]? = w.heap[b]?
theorem But.refl (g : Nat) (w : World) : But g w w := fun _ _ _ => rfl
theorem But.get {g : Nat} {w w' : World} (h : But g w w') {b : Nat} {o : Obj} (hb : w.heap[b]? = some o) (hne : b ≠ g) : w'.heap[b]? = some o :=
  (h b (Array.getElem?_eq_some_iff.1 hb).1 hne).trans hb
theorem But.set {g : Nat} {w w' : World} (h : But g w w') (o : Nat) (v : Value) : But g w (w'.setCell ⟨g, o, none⟩ v) := fun b hb hne => (Below.heap_setCell w' _ _ b hne).trans (h b hb hne)
theorem lt_of_some {w : World} {b : Nat} {o : Obj} (hb : w.heap[b]? = some o) : b < w.heap.size := (Array.getElem?_eq_some_iff.1 hb).1

end Go.Proofs.YtaplaoelamnoiaaGreatDoor

/- How many cells a shape has (M.count), as the program counts them, and two facts on its loops. No condition. -/
namespace Go.Proofs.YtaplaoelamnoiaaGreatDoor
open Go.RowKit
namespace M

/-- The first length that may not be. -/
def badLen : List Int → Int
  | [] => 0
  | n :: r => if n < 0 then 4 else if 4096 < n then 7 else badLen r

def mulUp : Int → List Int → Except Int Int
  | a, [] => .ok a
  | a, n :: r => if 4096 < a * n then .error 7 else mulUp (a * n) r

def count (s : List Int) : Except Int Int :=
  if 6 < s.length then .error 3
  else if badLen s ≠ 0 then .error (badLen s)
  else if 0 ∈ s then .ok 0
  else mulUp 1 s

end M

theorem badLen_drop {s : List Int} {k : Nat} (h : k < s.length) :
    M.badLen (s.drop k) = if s.getD k 0 < 0 then 4 else if 4096 < s.getD k 0 then 7 else M.badLen (s.drop (k + 1)) := by
  rw [List.drop_eq_getElem_cons h]; simp [M.badLen, List.getD_eq_getElem?_getD, h]

theorem mulUp_drop {s : List Int} {k : Nat} (a : Int) (h : k < s.length) :
    M.mulUp a (s.drop k) = if 4096 < a * s.getD k 0 then .error 7 else M.mulUp (a * s.getD k 0) (s.drop (k + 1)) := by
  rw [List.drop_eq_getElem_cons h]; simp [M.mulUp, List.getD_eq_getElem?_getD, h]

theorem badLen_zero {s : List Int} (h : M.badLen s = 0) : ∀ x ∈ s, 0 ≤ x ∧ x ≤ 4096 := by
  induction s with
  | nil => simp
  | cons n r ih =>
    simp only [M.badLen] at h
    split at h
    · simp at h
    · split at h
      · simp at h
      · intro x hx
        simp only [List.mem_cons] at hx
        rcases hx with rfl | hx
        · omega
        · exact ih h x hx

end Go.Proofs.YtaplaoelamnoiaaGreatDoor

/- Arrays, as plain lists: what is wrong with one (M.flaw), when two match, cells again and again (M.cycle). No condition. -/
namespace Go.Proofs.YtaplaoelamnoiaaGreatDoor
open Go.RowKit

/-- An array of the language, as a value. -/
abbrev arrV (ch : Bool) (a : Option Addr) (m c : Nat) (b : Option Addr) (n k : Nat) : Value := .agg #[.bool ch, .slice a m c, .slice b n k]

namespace M

/-- A number that is no character. -/
def noChar (c : Int) : Bool := decide (c < 0) || (decide (1114111 < c) || (decide (55296 ≤ c) && decide (c ≤ 57343)))

def flaw (ch : Bool) (s d : List Int) : Int :=
  match count s with
  | .error e => e
  | .ok n => if (d.length : Int) ≠ n then 4 else if ch = true ∧ d.any noChar = true then 6 else 0

end M

theorem anyChar_drop {d : List Int} {k : Nat} (h : k < d.length) : (d.drop k).any M.noChar = (M.noChar d[k] || (d.drop (k + 1)).any M.noChar) := by
  rw [List.drop_eq_getElem_cons h, List.any_cons]

theorem count_ne {s : List Int} {e : Int} (h : M.count s = .error e) : e ≠ 0 := by
  have up : ∀ (s : List Int) (a e : Int), M.mulUp a s = .error e → e ≠ 0 := by
    intro s
    induction s with
    | nil => intro a e h; simp [M.mulUp] at h
    | cons n r ih =>
      intro a e h
      simp only [M.mulUp] at h
      split at h
      · cases h; decide
      · exact ih _ _ h
  unfold M.count at h
  split at h
  · cases h; decide
  · split at h
    · rename_i h1; cases h; exact h1
    · split at h
      · cases h
      · exact up _ _ _ h

theorem flaw_error {ch : Bool} {s d : List Int} {e : Int} (h : M.count s = .error e) : M.flaw ch s d = e := by unfold M.flaw; rw [h]
theorem flaw_length {ch : Bool} {s d : List Int} {n : Int} (h : M.count s = .ok n) (h1 : (d.length : Int) ≠ n) : M.flaw ch s d = 4 := by unfold M.flaw; rw [h]; exact if_pos h1
theorem flaw_num {s d : List Int} {n : Int} (h : M.count s = .ok n) (h1 : (d.length : Int) = n) : M.flaw false s d = 0 := by unfold M.flaw; rw [h]; simp [h1]
theorem flaw_char {s d : List Int} {n : Int} (h : M.count s = .ok n) (h1 : (d.length : Int) = n) (h2 : d.any M.noChar = true) : M.flaw true s d = 6 := by unfold M.flaw; rw [h]; simp [h1, h2]
theorem flaw_chars {s d : List Int} {n : Int} (h : M.count s = .ok n) (h1 : (d.length : Int) = n) (h2 : d.any M.noChar = false) : M.flaw true s d = 0 := by unfold M.flaw; rw [h]; simp [h1, h2]

theorem errV_ne {e : Int} (h : e ≠ 0) : errV e = .iface 46 (.int .i64 e) := if_neg h
theorem errV_zero : errV 0 = .nilIface := rfl

end Go.Proofs.YtaplaoelamnoiaaGreatDoor

/- A list again and again, as plain data. No condition. -/
namespace Go.Proofs.YtaplaoelamnoiaaGreatDoor
open Go.RowKit

namespace M
/-- A list again and again; of nothing it is z. -/
def cycle (d : List Int) (n : Nat) (z : Int) : List Int := (List.range n).map fun i => if d.length = 0 then z else d.getD (i % d.length) 0
end M

theorem cycle_succ (d : List Int) (n : Nat) (z : Int) : M.cycle d (n + 1) z = M.cycle d n z ++ [if d.length = 0 then z else d.getD (n % d.length) 0] := by
  simp [M.cycle, List.range_succ]
theorem cycle_length (d : List Int) (n : Nat) (z : Int) : (M.cycle d n z).length = n := by simp [M.cycle]

end Go.Proofs.YtaplaoelamnoiaaGreatDoor

/- Where a cell lies (M.place), as the program reckons it, and one fact on its loop. No condition. -/
namespace Go.Proofs.YtaplaoelamnoiaaGreatDoor
open Go.RowKit
namespace M

/-- The place so far p; the lengths and indices that are left. -/
def placeFrom : Int → List Int → List Int → Except Int Int
  | p, n :: s, i :: t => if i < 0 ∨ n ≤ i then .error 5 else placeFrom (wrap64 (wrap64 (p * n) + i)) s t
  | p, _, _ => .ok p

def place (s t : List Int) : Except Int Int :=
  match count s with
  | .error e => .error e
  | .ok _ => if t.length ≠ s.length then .error 3 else placeFrom 0 s t

end M

theorem placeFrom_drop {s t : List Int} {k : Nat} (p : Int) (h : k < s.length) (g : k < t.length) :
    M.placeFrom p (s.drop k) (t.drop k) = if t.getD k 0 < 0 ∨ s.getD k 0 ≤ t.getD k 0 then .error 5
      else M.placeFrom (wrap64 (wrap64 (p * s.getD k 0) + t.getD k 0)) (s.drop (k + 1)) (t.drop (k + 1)) := by
  rw [List.drop_eq_getElem_cons h, List.drop_eq_getElem_cons g]; simp [M.placeFrom, List.getD_eq_getElem?_getD, h, g]

end Go.Proofs.YtaplaoelamnoiaaGreatDoor

/- Plain facts on shapes: how many cells, and where a cell lies. No program in sight. -/
namespace Go.Proofs.YtaplaoelamnoiaaGreatDoor
open Go.RowKit
namespace M

def prod : List Int → Int
  | [] => 1
  | n :: r => n * prod r

/-- Each index lies on its axis (as many of the one as of the other). -/
def InR : List Int → List Int → Prop
  | [], [] => True
  | n :: s, i :: t => 0 ≤ i ∧ i < n ∧ InR s t
  | _, _ => False

def placeN : Int → List Int → List Int → Int
  | p, n :: s, i :: t => placeN (p * n + i) s t
  | p, _, _ => p

theorem prod_append (s t : List Int) : prod (s ++ t) = prod s * prod t := by
  induction s with
  | nil => simp [prod]
  | cons n s ih => simp [prod, ih, Int.mul_assoc]

theorem prod_nonneg {s : List Int} (h : ∀ x ∈ s, 0 ≤ x) : 0 ≤ prod s := by
  induction s with
  | nil => simp [prod]
  | cons n s ih => exact Int.mul_nonneg (h n (by simp)) (ih fun x hx => h x (by simp [hx]))

theorem prod_pos {s : List Int} (h : ∀ x ∈ s, 1 ≤ x) : 1 ≤ prod s := by
  induction s with
  | nil => simp [prod]
  | cons n s ih =>
    have h1 := h n (by simp)
    have h2 := ih fun x hx => h x (by simp [hx])
    exact Int.mul_pos (by omega) (by omega)

theorem prod_zero {s : List Int} (h : (0 : Int) ∈ s) : prod s = 0 := by
  induction s with
  | nil => simp at h
  | cons n s ih =>
    simp only [List.mem_cons] at h
    rcases h with h | h
    · simp [prod, ← h]
    · simp [prod, ih h]

theorem mulUp_eq {s : List Int} (h : ∀ x ∈ s, 1 ≤ x) : ∀ a : Int, 1 ≤ a → a ≤ 4096 → mulUp a s = if a * prod s ≤ 4096 then .ok (a * prod s) else .error 7 := by
  induction s with
  | nil => intro a _ h2; simp [mulUp, prod, h2]
  | cons n s ih =>
    intro a h1 h2
    have hn := h n (by simp)
    have hs : ∀ x ∈ s, 1 ≤ x := fun x hx => h x (by simp [hx])
    have hp := prod_pos hs
    have han : 1 ≤ a * n := Int.mul_pos (by omega) (by omega)
    have e : a * prod (n :: s) = a * n * prod s := by simp [prod, Int.mul_assoc]
    rw [e]
    by_cases hc : 4096 < a * n
    · have : a * n * 1 ≤ a * n * prod s := Int.mul_le_mul_of_nonneg_left hp (by omega)
      rw [mulUp, if_pos hc, if_neg (by omega)]
    · rw [mulUp, if_neg hc, ih hs (a * n) han (by omega)]

theorem badLen_none {s : List Int} (h : ∀ x ∈ s, 0 ≤ x ∧ x ≤ 4096) : badLen s = 0 := by
  induction s with
  | nil => rfl
  | cons n s ih =>
    have hn := h n (by simp)
    rw [badLen, if_neg (by omega), if_neg (by omega)]
    exact ih fun x hx => h x (by simp [hx])

theorem count_ok {s : List Int} {n : Int} (h : count s = .ok n) : s.length ≤ 6 ∧ (∀ x ∈ s, 0 ≤ x ∧ x ≤ 4096) ∧ n = prod s ∧ 0 ≤ n ∧ n ≤ 4096 := by
  unfold count at h
  split at h
  · cases h
  · rename_i h6
    split at h
    · cases h
    · rename_i hb
      have hb := badLen_zero (Decidable.of_not_not hb)
      split at h
      · rename_i h0
        obtain rfl := Except.ok.inj h
        exact ⟨by omega, hb, (prod_zero h0).symm, by omega, by omega⟩
      · rename_i h0
        have h1 : ∀ x ∈ s, 1 ≤ x := fun x hx => by
          have := (hb x hx).1
          rcases Int.lt_or_le x 1 with hlt | hge
          · have : x = 0 := by omega
            exact absurd (this ▸ hx) h0
          · exact hge
        rw [mulUp_eq h1 1 (by omega) (by omega)] at h
        split at h
        · have hp := prod_pos h1
          obtain rfl := Except.ok.inj h
          exact ⟨by omega, hb, by simp, by omega, by omega⟩
        · cases h

theorem count_mk {s : List Int} (h6 : s.length ≤ 6) (hb : ∀ x ∈ s, 0 ≤ x ∧ x ≤ 4096) (hp : prod s ≤ 4096) : count s = .ok (prod s) := by
  rw [count, if_neg (by omega), badLen_none hb, if_neg (by simp)]
  by_cases h0 : (0 : Int) ∈ s
  · rw [if_pos h0, prod_zero h0]
  · rw [if_neg h0]
    have h1 : ∀ x ∈ s, 1 ≤ x := fun x hx => by
      have := (hb x hx).1
      rcases Int.lt_or_le x 1 with hlt | hge
      · have : x = 0 := by omega
        exact absurd (this ▸ hx) h0
      · exact hge
    rw [mulUp_eq h1 1 (by omega) (by omega)]
    simp [hp]

/-- Errors of a shape are known ones. -/
theorem count_err {s : List Int} {e : Int} (h : count s = .error e) : e = 3 ∨ e = 4 ∨ e = 7 := by
  have hb : ∀ s : List Int, badLen s = 0 ∨ badLen s = 4 ∨ badLen s = 7 := by
    intro s
    induction s with
    | nil => simp [badLen]
    | cons n r ih => rw [badLen]; split; · simp
                     split; · simp
                     exact ih
  have hm : ∀ (s : List Int) (a e : Int), mulUp a s = .error e → e = 7 := by
    intro s
    induction s with
    | nil => intro a e h; cases h
    | cons n r ih =>
      intro a e h
      rw [mulUp] at h
      split at h
      · exact (Except.error.inj h).symm
      · exact ih _ _ h
  unfold count at h
  split at h
  · left; exact (Except.error.inj h).symm
  · split at h
    · have := Except.error.inj h
      have := hb s
      rename_i hne _
      omega
    · split at h
      · cases h
      · have := hm _ _ _ h; omega

theorem InR.length {s t : List Int} (h : InR s t) : t.length = s.length := by
  induction s generalizing t with
  | nil => cases t with
    | nil => rfl
    | cons => exact h.elim
  | cons n s ih => cases t with
    | nil => exact h.elim
    | cons i t => simp [ih h.2.2]

theorem InR.pos {s t : List Int} (h : InR s t) : ∀ x ∈ s, 1 ≤ x := by
  induction s generalizing t with
  | nil => simp
  | cons n s ih => cases t with
    | nil => exact h.elim
    | cons i t =>
      intro x hx
      simp only [List.mem_cons] at hx
      rcases hx with rfl | hx
      · have := h.1; have := h.2.1; omega
      · exact ih h.2.2 x hx

theorem InR_append {s t u v : List Int} (h : t.length = s.length) : InR (s ++ u) (t ++ v) ↔ InR s t ∧ InR u v := by
  induction s generalizing t with
  | nil => cases t with
    | nil => simp [InR]
    | cons => simp at h
  | cons n s ih => cases t with
    | nil => simp at h
    | cons i t =>
      simp only [List.length_cons, Nat.add_right_cancel_iff] at h
      simp [InR, ih h, and_assoc]

theorem placeN_append {s t u v : List Int} (h : t.length = s.length) (p : Int) : placeN p (s ++ u) (t ++ v) = placeN (placeN p s t) u v := by
  induction s generalizing t p with
  | nil => cases t with
    | nil => simp [placeN]
    | cons => simp at h
  | cons n s ih => cases t with
    | nil => simp at h
    | cons i t =>
      simp only [List.length_cons, Nat.add_right_cancel_iff] at h
      simp [placeN, ih h]

theorem placeN_at {s t : List Int} (h : InR s t) (p : Int) : placeN p s t = p * prod s + placeN 0 s t := by
  induction s generalizing t p with
  | nil => cases t with
    | nil => simp [placeN, prod]
    | cons => exact h.elim
  | cons n s ih => cases t with
    | nil => exact h.elim
    | cons i t =>
      simp only [placeN, prod]
      rw [ih h.2.2 (p * n + i), ih h.2.2 (0 * n + i)]
      simp [Int.add_mul, Int.mul_assoc, Int.add_assoc]

theorem placeN_bound {s t : List Int} (h : InR s t) : 0 ≤ placeN 0 s t ∧ placeN 0 s t < prod s := by
  induction s generalizing t with
  | nil => cases t with
    | nil => simp [placeN, prod]
    | cons => exact h.elim
  | cons n s ih => cases t with
    | nil => exact h.elim
    | cons i t =>
      have hi := ih h.2.2
      obtain ⟨h0, h1, h2⟩ := h
      have hp := prod_pos h2.pos
      simp only [placeN, prod]
      rw [placeN_at h2]
      simp only [Int.zero_mul, Int.zero_add]
      have hle : i * prod s ≤ (n - 1) * prod s := Int.mul_le_mul_of_nonneg_right (by omega) (by omega)
      rw [Int.sub_mul, Int.one_mul] at hle
      have : 0 ≤ i * prod s := Int.mul_nonneg h0 (by omega)
      omega

/-- Within the bounds nothing runs round. -/
theorem placeFrom_in {s t : List Int} (h : InR s t) : ∀ p : Int, 0 ≤ p → (p + 1) * prod s ≤ 4096 → placeFrom p s t = .ok (placeN p s t) := by
  induction s generalizing t with
  | nil => cases t with
    | nil => intro p _ _; rfl
    | cons => exact h.elim
  | cons n s ih => cases t with
    | nil => exact h.elim
    | cons i t =>
      intro p hp hb
      obtain ⟨h0, h1, h2⟩ := h
      have hps := prod_pos h2.pos
      have e : (p + 1) * prod (n :: s) = (p * n + n) * prod s := by simp only [prod]; rw [← Int.mul_assoc, Int.add_mul, Int.one_mul]
      rw [e] at hb
      have hpn : 0 ≤ p * n := Int.mul_nonneg hp (by omega)
      have hq : (p * n + i + 1) * prod s ≤ (p * n + n) * prod s := Int.mul_le_mul_of_nonneg_right (by omega) (by omega)
      have hq2 : (p * n + n) * 1 ≤ (p * n + n) * prod s := Int.mul_le_mul_of_nonneg_left hps (by omega)
      rw [placeFrom, if_neg (by omega), IntWalk.wrap64_in (p * n) (by omega), IntWalk.wrap64_in (p * n + i) (by omega), ih h2 _ (by omega) (by omega)]
      rfl

theorem placeFrom_ok {s t : List Int} (hl : t.length = s.length) : ∀ {p q : Int}, placeFrom p s t = .ok q → InR s t := by
  induction s generalizing t with
  | nil => cases t with
    | nil => intro _ _ _; trivial
    | cons => simp at hl
  | cons n s ih => cases t with
    | nil => simp at hl
    | cons i t =>
      simp only [List.length_cons, Nat.add_right_cancel_iff] at hl
      intro p q h
      rw [placeFrom] at h
      split at h
      · cases h
      · exact ⟨by omega, by omega, ih hl h⟩

theorem place_mk {s t : List Int} {n : Int} (hc : count s = .ok n) (h : InR s t) : place s t = .ok (placeN 0 s t) := by
  obtain ⟨_, _, hn, _, hm⟩ := count_ok hc
  rw [place, hc]
  simp only [h.length, ne_eq, not_true_eq_false, if_false]
  exact placeFrom_in h 0 (by omega) (by omega)

theorem place_ok {s t : List Int} {p : Int} (h : place s t = .ok p) : (∃ n, count s = .ok n) ∧ InR s t ∧ p = placeN 0 s t ∧ 0 ≤ p ∧ p < prod s := by
  cases hc : count s with
  | error e => rw [place, hc] at h; cases h
  | ok n =>
    have h' := h
    rw [place, hc] at h
    simp only at h
    split at h
    · cases h
    · rename_i hl
      have hin := placeFrom_ok (by omega) h
      have hp := place_mk hc hin
      rw [h'] at hp
      obtain rfl := Except.ok.inj hp
      exact ⟨⟨n, rfl⟩, hin, rfl, placeN_bound hin⟩

/-- ONE BEHIND THE OTHER. -/
theorem place_joined {s t a b : List Int} {p : Int} (hs : s.length ≤ 6) (ht : t.length ≤ 6) (ha : a.length = s.length) (h : place (s ++ t) (a ++ b) = .ok p) :
    ∃ x y m n, place s a = .ok x ∧ place t b = .ok y ∧ count s = .ok m ∧ count t = .ok n ∧ count (s ++ t) = .ok (m * n) ∧ p = x * n + y ∧
      (0 ≤ m ∧ m ≤ 4096) ∧ (0 ≤ n ∧ n ≤ 4096) ∧ (0 ≤ x ∧ x ≤ 4096) ∧ (0 ≤ y ∧ y ≤ 4096) := by
  obtain ⟨⟨c, hc⟩, hin, hp, _, _⟩ := place_ok h
  obtain ⟨h6, hb, hcp, hc0, hc1⟩ := count_ok hc
  rw [InR_append ha] at hin
  obtain ⟨h1, h2⟩ := hin
  have p1 := prod_pos h1.pos
  have p2 := prod_pos h2.pos
  rw [prod_append] at hcp
  have b1 : prod s * 1 ≤ prod s * prod t := Int.mul_le_mul_of_nonneg_left p2 (by omega)
  have b2 : 1 * prod t ≤ prod s * prod t := Int.mul_le_mul_of_nonneg_right p1 (by omega)
  have c1 := count_mk hs (fun x hx => hb x (by simp [hx])) (by omega)
  have c2 := count_mk ht (fun x hx => hb x (by simp [hx])) (by omega)
  have x1 := placeN_bound h1
  have x2 := placeN_bound h2
  refine ⟨_, _, _, _, place_mk c1 h1, place_mk c2 h2, c1, c2, by rw [hc, hcp], ?_, by omega, by omega, by omega, by omega⟩
  rw [hp, placeN_append ha, placeN_at h2]

end M
end Go.Proofs.YtaplaoelamnoiaaGreatDoor

/- Arrays as plain data, what calls leave that tell arrays; cells that stay. No condition. -/
namespace Go.Proofs.YtaplaoelamnoiaaGreatDoor
open Go.RowKit

/-- An array, as plain data. -/
structure Arr where
  ch : Bool
  s : List Int
  d : List Int
deriving DecidableEq

namespace M
def fill (ch : Bool) : Int := if ch then 32 else 0
def reshape (s : List Int) (x : Arr) : Except Int Arr :=
  match count s with
  | .error e => .error e
  | .ok n => if flaw x.ch x.s x.d = 0 then .ok ⟨x.ch, s, cycle x.d n.toNat (fill x.ch)⟩ else .error (flaw x.ch x.s x.d)
def iota (n : Int) : Except Int Arr := if n < 0 then .error 6 else if 4096 < n then .error 7 else .ok ⟨false, [n], (List.range n.toNat).map (fun (i : Nat) => (i : Int))⟩
end M

/-- What a call that tells an array, or an error, leaves. -/
def ArrPost (r : Except Int Arr) (w : World) (e : Ending) (w' : World) : Prop :=
  (∀ n, r = .error n → e = .returned (.tuple #[arrV false none 0 0 none 0 0, .iface 46 (.int .i64 n)])) ∧
  (∀ x, r = .ok x → ∃ a c b k, e = .returned (.tuple #[arrV x.ch a x.s.length c b x.d.length k, .nilIface]) ∧ Row w' a x.s ∧ Row w' b x.d) ∧
  Below w.heap.size w w'

theorem ArrPost.error {r : Except Int Arr} {w w' : World} {e : Ending} {n : Int} (h : r = .error n) (he : e = .returned (.tuple #[arrV false none 0 0 none 0 0, .iface 46 (.int .i64 n)])) (hb : Below w.heap.size w w') : ArrPost r w e w' := by
  subst h; exact ⟨fun m hm => by cases hm; exact he, fun x hx => (by cases hx), hb⟩
theorem ArrPost.ok {r : Except Int Arr} {w w' : World} {e : Ending} {x : Arr} {a b : Option Addr} {c k : Nat} (h : r = .ok x) (he : e = .returned (.tuple #[arrV x.ch a x.s.length c b x.d.length k, .nilIface])) (h1 : Row w' a x.s) (h2 : Row w' b x.d) (hb : Below w.heap.size w w') : ArrPost r w e w' := by
  subst h; exact ⟨fun m hm => (by cases hm), fun y hy => by cases hy; exact ⟨a, c, b, k, he, h1, h2⟩, hb⟩
theorem ArrPost.is_error {r : Except Int Arr} {w w' : World} {e : Ending} {n : Int} (h : ArrPost r w e w') (hr : r = .error n) : e = .returned (.tuple #[arrV false none 0 0 none 0 0, .iface 46 (.int .i64 n)]) ∧ Below w.heap.size w w' := ⟨h.1 n hr, h.2.2⟩
theorem ArrPost.is_ok {r : Except Int Arr} {w w' : World} {e : Ending} {x : Arr} (h : ArrPost r w e w') (hr : r = .ok x) :
    ∃ a c b k, e = .returned (.tuple #[arrV x.ch a x.s.length c b x.d.length k, .nilIface]) ∧ Row w' a x.s ∧ Row w' b x.d ∧ Below w.heap.size w w' := by
  obtain ⟨a, c, b, k, h1, h2, h3⟩ := h.2.1 x hr; exact ⟨a, c, b, k, h1, h2, h3, h.2.2⟩

/-- Three cells stay. -/
theorem held3 {w w' : World} {N : Nat} {x y z : Value} (hb : Below w.heap.size w w') (h : w.cell? ⟨N, 0, none⟩ = some x ∧ w.cell? ⟨N, 1, none⟩ = some y ∧ w.cell? ⟨N, 2, none⟩ = some z) :
    w'.cell? ⟨N, 0, none⟩ = some x ∧ w'.cell? ⟨N, 1, none⟩ = some y ∧ w'.cell? ⟨N, 2, none⟩ = some z :=
  ⟨(hb.cell (World.block_lt_of_cell? w _ h.1)).trans h.1, (hb.cell (World.block_lt_of_cell? w _ h.2.1)).trans h.2.1, (hb.cell (World.block_lt_of_cell? w _ h.2.2)).trans h.2.2⟩
theorem cell?_set_same (w : World) (a : Addr) (v : Value) (h : (w.cell? a).isSome = true) : (w.setCell a v).cell? a = some v := by
  obtain ⟨o, ho⟩ := Option.isSome_iff_exists.1 h
  exact World.cell?_setCell_same _ _ _ ho
theorem frozen3 {w w' : World} {N : Nat} (hb : Below w.heap.size w w') (hN : N < w.heap.size) (h : w.frozen? ⟨N, 0, none⟩ = false ∧ w.frozen? ⟨N, 1, none⟩ = false ∧ w.frozen? ⟨N, 2, none⟩ = false) :
    w'.frozen? ⟨N, 0, none⟩ = false ∧ w'.frozen? ⟨N, 1, none⟩ = false ∧ w'.frozen? ⟨N, 2, none⟩ = false :=
  ⟨(hb.frozen (by exact hN)).trans h.1, (hb.frozen (by exact hN)).trans h.2.1, (hb.frozen (by exact hN)).trans h.2.2⟩

/-- The result of a call that tells a bool and an error. -/
def resB : Except Int Bool → Value
  | .ok b => .tuple #[.bool b, .nilIface]
  | .error e => .tuple #[.bool false, .iface 46 (.int .i64 e)]

namespace M
def same (x y : Arr) : Except Int Bool :=
  if flaw x.ch x.s x.d = 0 then (if flaw y.ch y.s y.d = 0 then .ok (decide (x = y)) else .error (flaw y.ch y.s y.d)) else .error (flaw x.ch x.s x.d)
end M

theorem arr_eq (x y : Arr) : decide (x = y) = (decide (x.ch = y.ch) && (decide (x.s = y.s) && decide (x.d = y.d))) := by
  cases x; cases y
  simp only [Arr.mk.injEq]
  rw [Bool.decide_and, Bool.decide_and]

theorem same_ok {x y : Arr} (hx : M.flaw x.ch x.s x.d = 0) (hy : M.flaw y.ch y.s y.d = 0) : M.same x y = .ok (decide (x = y)) := by
  unfold M.same; rw [if_pos hx, if_pos hy]

theorem flaw_parts {ch : Bool} {s d : List Int} (h : M.flaw ch s d = 0) : ∃ q, M.count s = .ok q ∧ (d.length : Int) = q := by
  unfold M.flaw at h
  split at h
  · rename_i e he
    exact absurd h (count_ne he)
  · rename_i n hn
    split at h
    · cases h
    · rename_i hl
      exact ⟨n, hn, Decidable.of_not_not hl⟩

theorem flaw_len {ch : Bool} {s d : List Int} (h : M.flaw ch s d = 0) : d.length ≤ 4096 ∧ s.length ≤ 6 := by
  unfold M.flaw at h
  split at h
  · rename_i e he
    exact absurd h (count_ne he)
  · rename_i n hn
    have hc := M.count_ok hn
    split at h
    · cases h
    · rename_i hl
      have : (d.length : Int) = n := Decidable.of_not_not hl
      exact ⟨by omega, hc.1⟩

end Go.Proofs.YtaplaoelamnoiaaGreatDoor
