/- An order of a relation's things, bit by bit. No program in sight; no condition. -/
import Derived.Test.YtiebknfmmanbiaaDoorFarPlain
namespace Go.Proofs.YtiebknfmmanbiaaDoor
open Go.RowKit

/-- What is left behind k steps. -/
def Left (n : Nat) (E : Nat → Nat → Bool) (k l : Nat) : Prop := ∀ j, l.testBit j = decide (j < n ∧ j ∉ Re.ordK n E k)
/-- Does none of the first m that are left lead to i? -/
def frUp (E : Nat → Nat → Bool) (out : List Nat) (i m : Nat) : Bool := !((List.range m).any fun j => !(out.contains j) && E j i)
theorem frUp_zero (E : Nat → Nat → Bool) (out : List Nat) (i : Nat) : frUp E out i 0 = true := rfl
theorem frUp_succ (E : Nat → Nat → Bool) (out : List Nat) (i m : Nat) : frUp E out i (m + 1) = (frUp E out i m && !(!(out.contains m) && E m i)) := by
  unfold frUp
  rw [List.range_succ, List.any_append]
  simp
theorem frUp_all {n : Nat} {E : Nat → Nat → Bool} {out : List Nat} {i : Nat} (h : out.contains i = false) : frUp E out i n = Re.free n E out i := by
  unfold frUp Re.free
  rw [h]; rfl
theorem left_start {n : Nat} (E : Nat → Nat → Bool) : Left n E 0 (2 ^ n - 1) := fun j => by
  rw [Nat.testBit_two_pow_sub_one]
  congr 1
  exact propext ⟨fun h => ⟨h, by simp [Re.ordK]⟩, fun h => h.1⟩
theorem left_step {n : Nat} {E : Nat → Nat → Bool} {k l i : Nat} (h : Left n E k l) (hi : i < n) (hnx : Re.next n E (Re.ordK n E k) = i) {l' : Nat} (hl' : ∀ j, l'.testBit j = (l.testBit j && !decide (j = i))) : Left n E (k + 1) l' := fun j => by
  have e : Re.ordK n E (k + 1) = Re.ordK n E k ++ [i] := by
    show (if Re.next n E (Re.ordK n E k) < n then Re.ordK n E k ++ [Re.next n E (Re.ordK n E k)] else Re.ordK n E k) = _
    rw [hnx, if_pos hi]
  rw [hl' j, h j, e, Bool.eq_iff_iff, Bool.and_eq_true, decide_eq_true_iff, Bool.not_eq_true', decide_eq_false_iff_not, decide_eq_true_iff, List.mem_append, List.mem_singleton]
  constructor
  · rintro ⟨⟨h1, h2⟩, h3⟩; exact ⟨h1, fun h4 => h4.elim h2 h3⟩
  · rintro ⟨h1, h2⟩; exact ⟨⟨h1, fun h => h2 (.inl h)⟩, fun h => h2 (.inr h)⟩
theorem left_none {n : Nat} {E : Nat → Nat → Bool} {k : Nat} (h : Left n E k 0) (hf : Re.Full n E k) : k = n := by
  have := hf.cnt
  rw [Re.cnt_congr (Q := fun _ => true) fun i hi => ?_, Re.cnt_true] at this
  · exact this.symm
  · have := h i
    rw [Nat.zero_testBit, eq_comm, decide_eq_false_iff_not] at this
    exact decide_eq_true (Classical.byContradiction fun hn => this ⟨hi, hn⟩)
theorem left_some {n : Nat} {E : Nat → Nat → Bool} {k l : Nat} (h : Left n E k l) (h0 : l ≠ 0) (h32 : l < 4294967296) (hf : Re.Full n E k) : k < n := by
  have h1 := (low_clear h0 h32).2.1
  rw [h, decide_eq_true_iff] at h1
  have hc := hf.cnt
  have := Re.cnt_le n (fun i => decide (i ∈ Re.ordK n E k))
  rcases Nat.lt_or_ge k n with hlt | hge
  · exact hlt
  · exfalso
    have e := Re.cnt_eq (n := n) (P := fun i => decide (i ∈ Re.ordK n E k)) (Q := fun _ => true) (fun _ _ _ => rfl) (by rw [Re.cnt_true, hc]; exact hge) _ h1.1
    exact h1.2 (by simpa using e)
theorem full_next {n : Nat} {E : Nat → Nat → Bool} {k i : Nat} (hf : Re.Full n E k) (hi : i < n) (hnx : Re.next n E (Re.ordK n E k) = i) : Re.Full n E (k + 1) := fun m hm => by
  by_cases e : m = k
  · subst e; rw [hnx]; exact hi
  · exact hf m (by omega)
theorem next_hit {n : Nat} {E : Nat → Nat → Bool} {out : List Nat} {i : Nat} (hi : i < n) (hb : ∀ j, j < i → Re.free n E out j = false) (hf : Re.free n E out i = true) : Re.next n E out = i := by
  rcases Re.next_spec n E out with ⟨_, h⟩ | ⟨h1, h2, h3⟩
  · rw [h i hi] at hf; cases hf
  · rcases Nat.lt_trichotomy (Re.next n E out) i with h | h | h
    · rw [hb _ h] at h2; cases h2
    · exact h
    · rw [h3 i h] at hf; cases hf
theorem next_none {n : Nat} {E : Nat → Nat → Bool} {out : List Nat} (hb : ∀ j, j < n → Re.free n E out j = false) : Re.next n E out = n := by
  rcases Re.next_spec n E out with ⟨h, _⟩ | ⟨h1, h2, _⟩
  · exact h
  · rw [hb _ h1] at h2; cases h2
theorem free_out {n : Nat} {E : Nat → Nat → Bool} {out : List Nat} {i : Nat} (h : i ∈ out) : Re.free n E out i = false := by
  rw [Bool.eq_false_iff]
  exact fun hf => (Re.free_iff.1 hf).1 h

namespace M
/-- An order, as numbers. -/
def ordL (n : Nat) (E : Nat → Nat → Bool) (k : Nat) : List Int := (Re.ordK n E k).map fun (i : Nat) => (i : Int)
end M
theorem ordL_step {n : Nat} {E : Nat → Nat → Bool} {k i : Nat} (hi : i < n) (hnx : Re.next n E (Re.ordK n E k) = i) : M.ordL n E (k + 1) = M.ordL n E k ++ [(i : Int)] := by
  unfold M.ordL
  have e : Re.ordK n E (k + 1) = Re.ordK n E k ++ [i] := by
    show (if Re.next n E (Re.ordK n E k) < n then Re.ordK n E k ++ [Re.next n E (Re.ordK n E k)] else Re.ordK n E k) = _
    rw [hnx, if_pos hi]
  rw [e, List.map_append]; rfl
theorem ord_done {n : Nat} {E : Nat → Nat → Bool} (hf : Re.Full n E n) : (Re.ordK n E n).length = n := hf.len
theorem ord_short {n : Nat} {E : Nat → Nat → Bool} {k : Nat} (hf : Re.Full n E k) (hk : k < n) (hnx : Re.next n E (Re.ordK n E k) = n) : (Re.ordK n E n).length ≠ n := by
  have h := Re.ordK_stop (n := n) (E := E) (k := k) (by omega) (n - k)
  rw [show k + (n - k) = n by omega] at h
  rw [h, hf.len]; omega
end Go.Proofs.YtiebknfmmanbiaaDoor
