/- So many things in turn, the first error told. No condition. -/
import Derived.Test.YtfnoalbnkbifmaaTwo2
import Derived.Test.YtfnoalbnkbifmaaFits
namespace Go.Proofs.Ytfnoalbnkbifmaa
open Go.RowKit

namespace M
/-- So many things in turn, till one goes wrong. -/
def seqE : Nat → (Nat → Except Int Int) → Except Int (List Int)
  | 0, _ => .ok []
  | n + 1, F => match seqE n F with
    | .error e => .error e
    | .ok l => match F n with
      | .error e => .error e
      | .ok v => .ok (l ++ [v])
end M

theorem seqE_length {n : Nat} {F : Nat → Except Int Int} : ∀ {l : List Int}, M.seqE n F = .ok l → l.length = n := by
  induction n with
  | zero => intro l h; cases h; rfl
  | succ n ih =>
    intro l h
    unfold M.seqE at h
    cases hq : M.seqE n F with
    | error e => rw [hq] at h; cases h
    | ok l' =>
      rw [hq] at h
      cases hf : F n with
      | error e => simp only [hf] at h; cases h
      | ok v => simp only [hf] at h; cases h; simp [ih hq]
theorem seqE_next {n : Nat} {F : Nat → Except Int Int} {l : List Int} {v : Int} (h : M.seqE n F = .ok l) (hv : F n = .ok v) : M.seqE (n + 1) F = .ok (l ++ [v]) := by
  unfold M.seqE; rw [h]; simp only [hv]
theorem seqE_stop {n : Nat} {F : Nat → Except Int Int} {l : List Int} {e : Int} (h : M.seqE n F = .ok l) (hv : F n = .error e) : M.seqE (n + 1) F = .error e := by
  unfold M.seqE; rw [h]; simp only [hv]
theorem seqE_error {n : Nat} {F : Nat → Except Int Int} {e : Int} (h : M.seqE n F = .error e) : ∀ {m : Nat}, n ≤ m → M.seqE m F = .error e := by
  intro m hm
  induction m with
  | zero => obtain rfl : n = 0 := by omega
            exact h
  | succ m ih =>
    by_cases he : n = m + 1
    · subst he; exact h
    · unfold M.seqE; rw [ih (by omega)]
theorem seqE_get {n : Nat} {F : Nat → Except Int Int} : ∀ {l : List Int}, M.seqE n F = .ok l → ∀ i, i < n → F i = .ok (l.getD i 0) := by
  induction n with
  | zero => intro l h i hi; omega
  | succ n ih =>
    intro l h i hi
    unfold M.seqE at h
    cases hq : M.seqE n F with
    | error e => rw [hq] at h; cases h
    | ok l' =>
      rw [hq] at h
      cases hf : F n with
      | error e => simp only [hf] at h; cases h
      | ok v =>
        simp only [hf] at h
        cases h
        have hl := seqE_length hq
        by_cases hn : i = n
        · subst hn; rw [hf, ← hl]; simp
        · rw [ih hq i (by omega), List.getD_eq_getElem?_getD, List.getD_eq_getElem?_getD, List.getElem?_append_left (by omega)]
theorem seqE_all {n : Nat} {F : Nat → Except Int Int} {l : List Int} (h : M.seqE n F = .ok l) (hF : ∀ i v, i < n → F i = .ok v → I64 v) : All64 l := fun x hx => by
  obtain ⟨i, hi, rfl⟩ := List.getElem_of_mem hx
  have hl := seqE_length h
  have := seqE_get h i (by omega)
  rw [List.getD_eq_getElem?_getD, List.getElem?_eq_getElem hi, Option.getD_some] at this
  exact hF i _ (by omega) this
theorem seqE_ok {n : Nat} {F : Nat → Except Int Int} {G : Nat → Int} (h : ∀ i, i < n → F i = .ok (G i)) : M.seqE n F = .ok ((List.range n).map G) := by
  induction n with
  | zero => rfl
  | succ n ih => rw [seqE_next (ih fun i hi => h i (by omega)) (h n (by omega)), List.range_succ, List.map_append]; rfl
theorem tw_i64 {g : Int} {c1 c2 : Bool} {a b v : Int} (ha : I64 a) (hb : I64 b) (h : M.tw g c1 c2 a b = .ok v) : I64 v := by
  unfold M.tw at h
  split at h
  · exact I64_two ha hb h
  · cases h; split <;> (unfold I64; omega)

end Go.Proofs.Ytfnoalbnkbifmaa
