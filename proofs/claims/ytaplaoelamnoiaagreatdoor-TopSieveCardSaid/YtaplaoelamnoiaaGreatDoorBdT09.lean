/- Texts that lie in one file: what is plain, rows, boxes, squares, and what is known of a world. No condition. -/
import Derived.Test.YtaplaoelamnoiaaGreatDoorBd01
import Derived.Test.YtaplaoelamnoiaaGreatDoorWkFits
import Derived.Test.YtaplaoelamnoiaaGreatDoorBdT08
/- Inner products, as plain lists: cell by cell, line by line, the first error told. No program in sight, no condition. -/
namespace Go.Proofs.YtaplaoelamnoiaaGreatDoor
open Go.RowKit

namespace M
/-- The cell at a place of a line of the k-th place. -/
def lineV (g : Int) (c1 c2 : Bool) (d d' : List Int) (P C k j : Nat) : Except Int Int := tw g c1 c2 (d.getD (k / C * P + j) 0) (d'.getD (j * C + k % C) 0)
def innerCell (f g : Int) (c1 c2 : Bool) (d d' : List Int) (P C k : Nat) : Except Int Int :=
  match seqE P (lineV g c1 c2 d d' P C k) with
  | .error e => .error e
  | .ok l => foldL f l
def innerOf (f g : Int) (x y : Arr) (s : List Int) (P C N : Nat) : Except Int Arr :=
  match seqE N (innerCell f g x.ch y.ch x.d y.d P C) with
  | .error e => .error e
  | .ok l => .ok ⟨false, s, l⟩
/-- An empty line wants a neutral number. -/
def lone (f long : Int) : Except Int Int := if long = 0 then neutral f else .ok 0
def inner (f g : Int) (x y : Arr) : Except Int Arr :=
  if unk f g ≠ 0 then .error 1
  else if flaws x y ≠ 0 then .error (flaws x y)
  else match fits x y with
  | .error e => .error e
  | .ok p =>
    if ((x.ch || y.ch) && !cmp g) = true then .error 6
    else match lone f p.2 with
    | .error e => .error e
    | .ok _ => innerOf f g x y p.1 p.2.toNat (prod y.s.tail).toNat (prod p.1).toNat
end M

/-- The sizes behind a good fit. -/
theorem prod_append (u v : List Int) : M.prod (u ++ v) = M.prod u * M.prod v := by
  induction u with
  | nil => simp [M.prod]
  | cons x r ih => simp only [List.cons_append, M.prod, ih, Int.mul_assoc]
theorem prod_nonneg {u : List Int} (h : ∀ x ∈ u, 0 ≤ x) : 0 ≤ M.prod u := by
  induction u with
  | nil => simp [M.prod]
  | cons x r ih => exact Int.mul_nonneg (h x (by simp)) (ih fun y hy => h y (by simp [hy]))

theorem innerFits {x y : Arr} {sv : List Int} {long : Int} (h : M.fits x y = .ok (sv, long)) : ∃ u v N, x.s = u ++ [long] ∧ y.s = long :: v ∧ sv = u ++ v ∧ M.count (u ++ v) = .ok N := by
  unfold M.fits at h
  by_cases h1 : x.s = [] ∨ y.s = []
  · rw [if_pos h1] at h; cases h
  rw [if_neg h1] at h
  by_cases h2 : x.s.getLastD 0 ≠ y.s.headD 0
  · rw [if_pos h2] at h; cases h
  rw [if_neg h2] at h
  have hx : x.s ≠ [] := fun e => h1 (.inl e)
  have hy : y.s ≠ [] := fun e => h1 (.inr e)
  cases hc : M.count (x.s.dropLast ++ y.s.tail) with
  | error e => rw [hc] at h; cases h
  | ok N =>
    rw [hc] at h
    cases h
    have e1 : x.s.getLastD 0 = x.s.getLast hx := by rw [List.getLastD_eq_getLast?, List.getLast?_eq_some_getLast hx]; rfl
    refine ⟨x.s.dropLast, y.s.tail, N, ?_, ?_, rfl, hc⟩
    · rw [e1]; exact (List.dropLast_concat_getLast hx).symm
    · rw [Decidable.of_not_not h2]
      obtain ⟨q, v, hv⟩ : ∃ q v, y.s = q :: v := by
        cases hs : y.s with
        | nil => exact absurd hs hy
        | cons q v => exact ⟨q, v, rfl⟩
      rw [hv]; rfl
theorem prod_bound {l : List Int} (h : ∀ x ∈ l, 0 ≤ x ∧ x ≤ 4096) : 0 ≤ M.prod l ∧ M.prod l ≤ 4096 ^ l.length := by
  induction l with
  | nil => simp [M.prod]
  | cons x r ih =>
    obtain ⟨i1, i2⟩ := ih fun y hy => h y (by simp [hy])
    have hx := h x (by simp)
    refine ⟨Int.mul_nonneg hx.1 i1, ?_⟩
    rw [List.length_cons, Int.pow_succ, Int.mul_comm _ (4096 : Int)]
    exact Int.mul_le_mul hx.2 i2 i1 (by decide)
theorem prod_bound5 {l : List Int} (h : ∀ x ∈ l, 0 ≤ x ∧ x ≤ 4096) (hl : l.length ≤ 5) : 0 ≤ M.prod l ∧ M.prod l ≤ 1152921504606846976 := by
  have h1 := prod_bound h
  have h2 : l.length = 0 ∨ l.length = 1 ∨ l.length = 2 ∨ l.length = 3 ∨ l.length = 4 ∨ l.length = 5 := by omega
  refine ⟨h1.1, Int.le_trans h1.2 ?_⟩
  rcases h2 with e | e | e | e | e | e <;> rw [e] <;> decide
theorem prod_take {l : List Int} {k : Nat} (h : k < l.length) : M.prod (l.take (k + 1)) = M.prod (l.take k) * l[k] := by
  rw [List.take_succ_eq_append_getElem h, prod_append]
  simp [M.prod]

/-- The sizes behind a good fit. -/
theorem inner_sizes {ch ch' : Bool} {u v d d' : List Int} {p N : Int} (ha : M.flaw ch (u ++ [p]) d = 0) (hb : M.flaw ch' (p :: v) d' = 0) (hc : M.count (u ++ v) = .ok N) :
    ∃ U P C : Nat, p = P ∧ P ≤ 4096 ∧ M.prod v = C ∧ d.length = U * P ∧ d'.length = P * C ∧ N = ((U * C : Nat) : Int) ∧ U * C ≤ 4096 ∧ M.prod (u ++ v) = ((U * C : Nat) : Int) ∧ U * P ≤ 4096 ∧ P * C ≤ 4096 ∧ (∀ x ∈ v, 0 ≤ x ∧ x ≤ 4096) ∧ v.length ≤ 5 := by
  obtain ⟨q1, h1, e1⟩ := flaw_parts ha
  obtain ⟨q2, h2, e2⟩ := flaw_parts hb
  obtain ⟨_, a2, a3, a4, a5⟩ := M.count_ok h1
  obtain ⟨b1, b2, b3, b4, b5⟩ := M.count_ok h2
  obtain ⟨_, _, c3, c4, c5⟩ := M.count_ok hc
  have hp := a2 p (by simp)
  have hu : 0 ≤ M.prod u := prod_nonneg fun x hx => (a2 x (by simp [hx])).1
  have hv : 0 ≤ M.prod v := prod_nonneg fun x hx => (b2 x (by simp [hx])).1
  rw [prod_append] at a3 c3
  have a3' : q1 = M.prod u * p := by rw [a3]; simp [M.prod]
  have b3' : q2 = p * M.prod v := b3
  obtain ⟨U, hU⟩ : ∃ U : Nat, M.prod u = U := ⟨(M.prod u).toNat, by omega⟩
  obtain ⟨C, hC⟩ : ∃ C : Nat, M.prod v = C := ⟨(M.prod v).toNat, by omega⟩
  obtain ⟨P, hP⟩ : ∃ P : Nat, p = P := ⟨p.toNat, by omega⟩
  subst hP
  have m1 : ((U * P : Nat) : Int) = (U : Int) * (P : Int) := by simp
  have m2 : ((P * C : Nat) : Int) = (P : Int) * (C : Int) := by simp
  have m3 : ((U * C : Nat) : Int) = (U : Int) * (C : Int) := by simp
  rw [hU, ← m1] at a3'
  rw [hC, ← m2] at b3'
  rw [hU, hC, ← m3] at c3
  refine ⟨U, P, C, rfl, by omega, hC, by omega, by omega, c3, by omega, ?_, by omega, by omega, fun x hx => b2 x (by simp [hx]), by simpa using b1⟩
  rw [prod_append, hU, hC, m3]

end Go.Proofs.YtaplaoelamnoiaaGreatDoor

/- Each with each, as plain lists. No program in sight; no condition. -/
namespace Go.Proofs.YtaplaoelamnoiaaGreatDoor
open Go.RowKit

namespace M
/-- The cell at a place of the table. -/
def outC (f : Int) (c1 c2 : Bool) (d d' : List Int) (q : Nat) : Except Int Int := tw f c1 c2 (d.getD (q / d'.length) 0) (d'.getD (q % d'.length) 0)
def outer (f : Int) (x y : Arr) : Except Int Arr :=
  if ¬ fn2 f = true then .error 1
  else if flaws x y ≠ 0 then .error (flaws x y)
  else match count (x.s ++ y.s) with
  | .error e => .error e
  | .ok _ => if ((x.ch || y.ch) && !cmp f) = true then .error 6
    else match seqE (x.d.length * y.d.length) (outC f x.ch y.ch x.d y.d) with
    | .error e => .error e
    | .ok l => .ok ⟨false, x.s ++ y.s, l⟩
end M

theorem outC_at {f : Int} {c1 c2 : Bool} {d d' : List Int} {i j k : Nat} (hk : d'.length = k) (hj : j < k) : M.outC f c1 c2 d d' (i * k + j) = M.tw f c1 c2 (d.getD i 0) (d'.getD j 0) := by
  have e1 : (i * k + j) / k = i := by rw [Nat.mul_comm, Nat.mul_add_div (by omega), Nat.div_eq_of_lt hj, Nat.add_zero]
  have e2 : (i * k + j) % k = j := by rw [Nat.mul_comm, Nat.mul_add_mod, Nat.mod_eq_of_lt hj]
  unfold M.outC
  rw [hk, e1, e2]
theorem outer_sizes {ch ch' : Bool} {s s' d d' : List Int} {N : Int} (ha : M.flaw ch s d = 0) (hb : M.flaw ch' s' d' = 0) (hc : M.count (s ++ s') = .ok N) :
    N = ((d.length * d'.length : Nat) : Int) ∧ d.length * d'.length ≤ 4096 ∧ d.length ≤ 4096 ∧ d'.length ≤ 4096 := by
  obtain ⟨q1, h1, e1⟩ := flaw_parts ha
  obtain ⟨q2, h2, e2⟩ := flaw_parts hb
  obtain ⟨_, a2, a3, a4, a5⟩ := M.count_ok h1
  obtain ⟨_, b2, b3, b4, b5⟩ := M.count_ok h2
  obtain ⟨_, _, c3, c4, c5⟩ := M.count_ok hc
  rw [prod_append, ← a3, ← b3] at c3
  have m1 : ((d.length * d'.length : Nat) : Int) = (d.length : Int) * (d'.length : Int) := by simp
  have e1' : q1 = (d.length : Int) := by omega
  have e2' : q2 = (d'.length : Int) := by omega
  rw [e1', e2', ← m1] at c3
  exact ⟨c3, by omega, by omega, by omega⟩
end Go.Proofs.YtaplaoelamnoiaaGreatDoor
