/- Steps from a thing, bit by bit: the rim, what is seen, what is told so far; an order, bit by bit. No program in sight; no condition. -/
import Derived.Test.YtiebknfmmanbiaaDoorRe2
import Derived.Test.YtiebknfmmanbiaaDoorMask
import Derived.Lib.TrailingZeros
import Derived.Laws.BitsAllLaws
namespace Go.Proofs.YtiebknfmmanbiaaDoor
open Go.RowKit

theorem low_clear {r : Nat} (h0 : r ≠ 0) (h : r < 4294967296) :
    Lib.ctz 32 r < 32 ∧ r.testBit (Lib.ctz 32 r) = true ∧ (∀ j, (r &&& (r - 1)).testBit j = (r.testBit j && !decide (j = Lib.ctz 32 r))) ∧ (r &&& (r - 1)) < r := by
  obtain ⟨m, hm, hk⟩ := Lib.ctzFrom_spec 32 r (by omega) h
  have e : Lib.ctz 32 r = Lib.ctzFrom 32 r := by simp [Lib.ctz, h0]
  rw [e]
  generalize Lib.ctzFrom 32 r = k at *
  have pk : 0 < 2 ^ k := Nat.two_pow_pos k
  have e2 : r - 1 = 2 ^ k * (2 * m) + (2 ^ k - 1) := by
    rw [hm, Nat.mul_add, Nat.mul_one]; omega
  have b1 : ∀ j, r.testBit j = if j < k then false else (2 * m + 1).testBit (j - k) := fun j => by
    have := Nat.testBit_two_pow_mul_add (2 * m + 1) pk j
    rw [Nat.add_zero, ← hm, Nat.zero_testBit] at this
    exact this
  have b2 : ∀ j, (r - 1).testBit j = if j < k then (2 ^ k - 1).testBit j else (2 * m).testBit (j - k) := fun j => by
    rw [e2]
    exact Nat.testBit_two_pow_mul_add (2 * m) (by omega) j
  refine ⟨hk, ?_, ?_, ?_⟩
  · rw [b1, if_neg (Nat.lt_irrefl k), Nat.sub_self, Nat.testBit_zero]
    exact decide_eq_true (by omega)
  · intro j
    rw [Nat.testBit_and, b1, b2]
    by_cases hj : j < k
    · rw [if_pos hj]; rfl
    · rw [if_neg hj, if_neg hj]
      by_cases he : j = k
      · subst he
        rw [Nat.sub_self, Nat.testBit_zero, Nat.testBit_zero, decide_eq_false (show ¬ 2 * m % 2 = 1 by omega)]
        simp
      · obtain ⟨s, hs⟩ : ∃ s, j - k = s + 1 := ⟨j - k - 1, by omega⟩
        rw [hs, Nat.testBit_succ, Nat.testBit_succ, show (2 * m + 1) / 2 = m by omega, show 2 * m / 2 = m by omega, decide_eq_false he]
        simp
  · have := Nat.and_le_right (n := r) (m := r - 1)
    omega

theorem andNot_bit {a b : Nat} (ha : a < 4294967296) (hb : b < 4294967296) (j : Nat) : (a &&& (4294967295 - b)).testBit j = (a.testBit j && !b.testBit j) := by
  rw [Nat.testBit_and, show 4294967295 - b = 2 ^ 32 - (b + 1) by omega, Nat.testBit_two_pow_sub_succ (by omega)]
  by_cases hj : j < 32
  · rw [decide_eq_true hj, Bool.true_and]
  · rw [Nat.testBit_lt_two_pow (Nat.lt_of_lt_of_le ha (by show 2 ^ 32 ≤ 2 ^ j; exact Nat.pow_le_pow_right (by decide) (by omega)))]
    rfl
theorem lt32_of_bits {x n : Nat} (hn : n ≤ 32) (h : ∀ j, x.testBit j = true → j < n) : x < 4294967296 := by
  refine Nat.lt_of_lt_of_le (Nat.lt_pow_two_of_testBit (n := n) x fun j hj => ?_) (by show 2 ^ n ≤ 2 ^ 32; exact Nat.pow_le_pow_right (by decide) hn)
  cases hb : x.testBit j with
  | false => rfl
  | true => have := h j hb; omega

/-- The rim of the round d. -/
def Rim (n : Nat) (E : Nat → Nat → Bool) (o d r : Nat) : Prop := ∀ j, r.testBit j = decide (j < n ∧ Re.lev n E o j = d ∧ d < n)
/-- What is nearer than d. -/
def Seen (n : Nat) (E : Nat → Nat → Bool) (o d s : Nat) : Prop := ∀ j, s.testBit j = decide (j < n ∧ Re.lev n E o j < d ∧ Re.lev n E o j < n)
/-- What is told of those nearer than d. -/
def farUp (n : Nat) (E : Nat → Nat → Bool) (o d : Nat) : List Int := (List.range n).map fun j => if Re.lev n E o j < d ∧ Re.lev n E o j < n then (Re.lev n E o j : Int) else -1
/-- .. and of those of the round d that the rim has no more. -/
def farMid (n : Nat) (E : Nat → Nat → Bool) (o d r : Nat) : List Int := (List.range n).map fun j => if Re.lev n E o j < n ∧ (Re.lev n E o j < d ∨ (Re.lev n E o j = d ∧ r.testBit j = false)) then (Re.lev n E o j : Int) else -1
/-- What the rim's things that are done lead to. -/
def Nxt (n : Nat) (E : Nat → Nat → Bool) (o d r x : Nat) : Prop := ∀ j, x.testBit j = (List.range n).any fun i => decide (Re.lev n E o i = d) && !r.testBit i && E i j
/-- What is left of the rim of d. -/
def InRim (n : Nat) (E : Nat → Nat → Bool) (o d r : Nat) : Prop := ∀ j, r.testBit j = true → j < n ∧ Re.lev n E o j = d

theorem farUp_length (n : Nat) (E : Nat → Nat → Bool) (o d : Nat) : (farUp n E o d).length = n := by simp [farUp]
theorem farMid_length (n : Nat) (E : Nat → Nat → Bool) (o d r : Nat) : (farMid n E o d r).length = n := by simp [farMid]
theorem farUp_get {n : Nat} {E : Nat → Nat → Bool} {o d j : Nat} (hj : j < n) : (farUp n E o d).getD j 0 = if Re.lev n E o j < d ∧ Re.lev n E o j < n then (Re.lev n E o j : Int) else -1 := by
  rw [List.getD_eq_getElem?_getD]; simp [farUp, hj]
theorem farUp_zero (n : Nat) (E : Nat → Nat → Bool) (o : Nat) : farUp n E o 0 = List.replicate n (-1) := by
  apply List.ext_getElem <;> simp [farUp]
theorem rim_start {n : Nat} {E : Nat → Nat → Bool} {o : Nat} (ho : o < n) : Rim n E o 0 (2 ^ o) := fun j => by
  rw [Nat.testBit_two_pow, Bool.eq_iff_iff, decide_eq_true_iff, decide_eq_true_iff]
  constructor
  · rintro rfl; exact ⟨ho, (Re.lev_zero ho ho).2 rfl, by omega⟩
  · rintro ⟨h1, h2, -⟩; exact ((Re.lev_zero ho h1).1 h2).symm
theorem seen_start (n : Nat) (E : Nat → Nat → Bool) (o : Nat) : Seen n E o 0 0 := fun j => by
  rw [Nat.zero_testBit, eq_comm, decide_eq_false_iff_not]; omega
theorem seen_step {n : Nat} {E : Nat → Nat → Bool} {o d s r : Nat} (hs : Seen n E o d s) (hr : Rim n E o d r) : Seen n E o (d + 1) (s ||| r) := fun j => by
  rw [Nat.testBit_or, hs j, hr j, Bool.eq_iff_iff, Bool.or_eq_true, decide_eq_true_iff, decide_eq_true_iff, decide_eq_true_iff]
  omega
theorem mid_start {n : Nat} {E : Nat → Nat → Bool} {o d r : Nat} (hr : Rim n E o d r) : farMid n E o d r = farUp n E o d := by
  unfold farMid farUp
  refine List.map_congr_left fun j hj => ?_
  have hj := List.mem_range.1 hj
  rw [hr j]
  simp only [decide_eq_false_iff_not]
  have : (Re.lev n E o j < n ∧ (Re.lev n E o j < d ∨ Re.lev n E o j = d ∧ ¬(j < n ∧ Re.lev n E o j = d ∧ d < n))) = (Re.lev n E o j < d ∧ Re.lev n E o j < n) := propext (by omega)
  simp only [this]
theorem mid_end (n : Nat) (E : Nat → Nat → Bool) (o d : Nat) : farMid n E o d 0 = farUp n E o (d + 1) := by
  unfold farMid farUp
  refine List.map_congr_left fun j _ => ?_
  simp only [Nat.zero_testBit, and_true]
  have : (Re.lev n E o j < n ∧ (Re.lev n E o j < d ∨ Re.lev n E o j = d)) = (Re.lev n E o j < d + 1 ∧ Re.lev n E o j < n) := propext (by omega)
  simp only [this]
theorem mid_step {n : Nat} {E : Nat → Nat → Bool} {o d r k : Nat} (hk : k < n) (hl : Re.lev n E o k = d) (hd : d < n) {r' : Nat} (hr' : ∀ j, r'.testBit j = (r.testBit j && !decide (j = k))) : (farMid n E o d r).set k (d : Int) = farMid n E o d r' := by
  apply List.ext_getElem
  · simp [farMid]
  · intro j h1 h2
    have hj : j < n := by simpa [farMid] using h2
    rw [List.getElem_set]
    simp only [farMid, List.getElem_map, List.getElem_range, hr']
    by_cases e : k = j
    · subst e
      rw [if_pos rfl, if_pos ⟨by omega, .inr ⟨hl, by simp⟩⟩, hl]
    · rw [if_neg e, decide_eq_false (fun h => e h.symm)]
      simp
theorem inRim_start {n : Nat} {E : Nat → Nat → Bool} {o d r : Nat} (hr : Rim n E o d r) : InRim n E o d r := fun j hj => by
  rw [hr j, decide_eq_true_iff] at hj; exact ⟨hj.1, hj.2.1⟩
theorem inRim_step {n : Nat} {E : Nat → Nat → Bool} {o d r k : Nat} (h : InRim n E o d r) {r' : Nat} (hr' : ∀ j, r'.testBit j = (r.testBit j && !decide (j = k))) : InRim n E o d r' := fun j hj => by
  rw [hr' j, Bool.and_eq_true] at hj; exact h j hj.1
theorem nxt_start {n : Nat} {E : Nat → Nat → Bool} {o d r : Nat} (hd : d < n) (hr : Rim n E o d r) : Nxt n E o d r 0 := fun j => by
  rw [Nat.zero_testBit, eq_comm, List.any_eq_false]
  intro i hi
  have hi := List.mem_range.1 hi
  rw [hr i]
  by_cases e : Re.lev n E o i = d
  · rw [decide_eq_true (⟨hi, e, hd⟩ : i < n ∧ Re.lev n E o i = d ∧ d < n)]; simp
  · rw [decide_eq_false e]; simp
theorem nxt_step {n : Nat} {E : Nat → Nat → Bool} {o d r k x : Nat} (hk : k < n) (hl : Re.lev n E o k = d) {r' t : Nat} (hr' : ∀ j, r'.testBit j = (r.testBit j && !decide (j = k))) (ht : ∀ j, t.testBit j = E k j) (h : Nxt n E o d r x) : Nxt n E o d r' (x ||| t) := fun j => by
  rw [Nat.testBit_or, h j, ht j, Bool.eq_iff_iff, Bool.or_eq_true, List.any_eq_true, List.any_eq_true]
  constructor
  · rintro (⟨i, hi, hh⟩ | hh)
    · refine ⟨i, hi, ?_⟩
      rw [hr' i]
      simp only [Bool.and_eq_true, Bool.not_eq_true', decide_eq_true_eq] at hh ⊢
      exact ⟨⟨hh.1.1, by rw [hh.1.2]; rfl⟩, hh.2⟩
    · exact ⟨k, List.mem_range.2 hk, by rw [hr' k]; simp [hl, hh]⟩
  · rintro ⟨i, hi, hh⟩
    by_cases e : i = k
    · subst e
      simp only [Bool.and_eq_true] at hh
      exact .inr hh.2
    · refine .inl ⟨i, hi, ?_⟩
      rw [hr' i, decide_eq_false e] at hh
      simpa using hh
theorem nxt_bits {n : Nat} {E : Nat → Nat → Bool} {o d r x : Nat} (hE : ∀ i j, E i j = true → j < n) (h : Nxt n E o d r x) : ∀ j, x.testBit j = true → j < n := fun j hj => by
  rw [h j, List.any_eq_true] at hj
  obtain ⟨i, -, hh⟩ := hj
  simp only [Bool.and_eq_true] at hh
  exact hE i j hh.2
theorem rim_next {n : Nat} {E : Nat → Nat → Bool} {o d x s : Nat} (ho : o < n) (hd : d < n) (hE : ∀ i j, E i j = true → j < n) (hx : Nxt n E o d 0 x) (hs : Seen n E o (d + 1) s) (hx32 : x < 4294967296) (hs32 : s < 4294967296) : Rim n E o (d + 1) (x &&& (4294967295 - s)) := fun j => by
  rw [andNot_bit hx32 hs32, hx j, hs j, Bool.eq_iff_iff, Bool.and_eq_true, Bool.not_eq_true', List.any_eq_true, decide_eq_true_iff, decide_eq_false_iff_not]
  constructor
  · rintro ⟨⟨i, hi, hh⟩, hn⟩
    have hi := List.mem_range.1 hi
    simp only [Nat.zero_testBit, Bool.not_false, Bool.and_true, Bool.and_eq_true, decide_eq_true_eq] at hh
    have hj := hE i j hh.2
    have := Re.lev_step ho hi hj (by omega) hh.2
    refine ⟨hj, ?_, ?_⟩ <;> omega
  · rintro ⟨hj, h1, h2⟩
    obtain ⟨i, hi, he, hl⟩ := Re.lev_pred (E := E) ho hj (by omega) (by omega)
    exact ⟨⟨i, List.mem_range.2 hi, by simp [he]; omega⟩, by omega⟩
theorem rim_some {n : Nat} {E : Nat → Nat → Bool} {o d r : Nat} (hr : Rim n E o d r) (h0 : r ≠ 0) (h : r < 4294967296) : d < n := by
  have := (low_clear h0 h).2.1
  rw [hr, decide_eq_true_iff] at this
  exact this.2.2
theorem lev_down {n : Nat} {E : Nat → Nat → Bool} {o : Nat} (ho : o < n) : ∀ c j, j < n → Re.lev n E o j < n → ∀ e, e + c = Re.lev n E o j → ∃ i, i < n ∧ Re.lev n E o i = e := by
  intro c
  induction c with
  | zero => intro j hj _ e he; exact ⟨j, hj, by omega⟩
  | succ c ih =>
    intro j hj hl e he
    obtain ⟨i, hi, -, h2⟩ := Re.lev_pred ho hj hl (by omega)
    exact ih i hi (by omega) e (by omega)
theorem far_end {n : Nat} {E : Nat → Nat → Bool} {o d : Nat} (ho : o < n) (hr : Rim n E o d 0) : farUp n E o d = farUp n E o n := by
  unfold farUp
  refine List.map_congr_left fun j hj => ?_
  have hj := List.mem_range.1 hj
  have : (Re.lev n E o j < d ∧ Re.lev n E o j < n) = (Re.lev n E o j < n ∧ Re.lev n E o j < n) := propext (by
    constructor
    · rintro ⟨-, h⟩; exact ⟨h, h⟩
    · rintro ⟨h, -⟩
      refine ⟨?_, h⟩
      rcases Nat.lt_or_ge (Re.lev n E o j) d with h1 | h1
      · exact h1
      · obtain ⟨i, hi, hl⟩ := lev_down ho (Re.lev n E o j - d) j hj h d (by omega)
        have := hr i
        rw [Nat.zero_testBit, eq_comm, decide_eq_false_iff_not] at this
        exact absurd ⟨hi, hl, by omega⟩ this)
  simp only [this]

end Go.Proofs.YtiebknfmmanbiaaDoor
