/- What is done cell by cell: its errors have numbers, its arrays are not too long. No condition. -/
import Derived.Test.YtiebknfmmanbiaaDoorDocP
import Derived.Test.YtiebknfmmanbiaaDoorEachPlain2
import Derived.Test.YtiebknfmmanbiaaDoorRefOnes
import Derived.Test.YtiebknfmmanbiaaDoorRefTwo
namespace Go.Proofs.YtiebknfmmanbiaaDoor
open Go.RowKit

theorem seqE_err {n : Nat} {F : Nat → Except Int Int} {e : Int} (h : M.seqE n F = .error e) : ∃ i, i < n ∧ F i = .error e := by
  induction n with
  | zero => cases h
  | succ n ih =>
    unfold M.seqE at h
    cases hq : M.seqE n F with
    | error e' =>
      rw [hq] at h
      cases h
      obtain ⟨i, hi, h⟩ := ih hq
      exact ⟨i, by omega, h⟩
    | ok l =>
      rw [hq] at h
      cases hf : F n with
      | error e' =>
        simp only [hf] at h
        cases h
        exact ⟨n, by omega, hf⟩
      | ok v => simp only [hf] at h; cases h
theorem fillE_err {s : List Int} {n : Nat} {F : Nat → Except Int Int} {e : Int} (h : M.fillE s n F = .error e) : ∃ i, i < n ∧ F i = .error e := by
  unfold M.fillE at h
  cases hq : M.seqE n F with
  | error e' => rw [hq] at h; cases h; exact seqE_err hq
  | ok l => rw [hq] at h; cases h
theorem lens_of {x : Arr} (h : M.flaw x.ch x.s x.d = 0) : x.s.length ≤ maxLen ∧ x.d.length ≤ maxLen := by
  obtain ⟨h1, h2⟩ := flaw_len h
  exact ⟨by unfold maxLen; omega, by unfold maxLen; omega⟩
theorem each1_tame (f : Int) (x : Arr) : Tame (M.each1 f x) := by
  unfold M.each1
  cases hv : M.one f 0 with
  | error e => exact ⟨fun n h => by cases h; exact one_err hv, fun z h => by cases h⟩
  | ok v =>
    dsimp only
    by_cases hf : M.flaw x.ch x.s x.d = 0
    · rw [if_neg (fun h => h hf)]
      by_cases hc : x.ch = true
      · rw [if_pos hc]; exact ⟨fun n h => by cases h; decide, fun z h => by cases h⟩
      · rw [if_neg hc]
        refine ⟨fun n h => ?_, fun z h => ?_⟩
        · obtain ⟨i, -, hi⟩ := fillE_err h
          exact one_err hi
        · obtain ⟨-, h2, h3, -⟩ := fillE_ok h
          rw [h2, h3]; exact lens_of hf
    · rw [if_pos hf]; exact ⟨fun n h => by cases h; exact hf, fun z h => by cases h⟩
theorem tw_err {f : Int} {c1 c2 : Bool} {a b e : Int} (h : M.tw f c1 c2 a b = .error e) : e ≠ 0 := by
  unfold M.tw at h
  split at h
  · exact two_err h
  · cases h
theorem fitE_err {x y : Arr} {e : Int} (h : M.fitE x y = .error e) : e ≠ 0 := by
  unfold M.fitE at h
  split at h
  · cases h
  · split at h
    · cases h
    · split at h
      · cases h; decide
      · split at h
        · cases h; decide
        · cases h
theorem flaws_ne {x y : Arr} (h : M.flaws x y = 0) : M.flaw x.ch x.s x.d = 0 ∧ M.flaw y.ch y.s y.d = 0 := by
  unfold M.flaws at h
  split at h
  · rename_i h1; exact ⟨h1, h⟩
  · rename_i h1; exact absurd h h1
theorem each2_tame (f : Int) (x y : Arr) : Tame (M.each2 f x y) := by
  refine ⟨fun n h => ?_, fun z h => ?_⟩
  · unfold M.each2 at h
    split at h
    · cases h; decide
    · split at h
      · rename_i h1; cases h; exact h1
      · split at h
        · rename_i h2; cases h; exact fitE_err h2
        · split at h
          · cases h; decide
          · obtain ⟨i, -, hi⟩ := fillE_err h
            exact tw_err hi
  · have hfl : M.flaws x y = 0 := by
      unfold M.each2 at h
      split at h
      · cases h
      · split at h
        · cases h
        · rename_i h1; exact Decidable.of_not_not h1
    obtain ⟨h1, h2⟩ := flaws_ne hfl
    exact lens_of (each2_sound h1 h2 h)
theorem reshape_tame (s : List Int) (x : Arr) : Tame (M.reshape s x) := by
  unfold M.reshape
  cases hc : M.count s with
  | error e => exact ⟨fun n h => by cases h; exact count_ne hc, fun z h => by cases h⟩
  | ok q =>
    dsimp only
    obtain ⟨h1, -, -, h4, h5⟩ := M.count_ok hc
    split
    · refine ⟨(fun n h => by cases h), fun z h => ?_⟩
      cases h
      dsimp only
      rw [cycle_length]
      exact ⟨by unfold maxLen; omega, by unfold maxLen; omega⟩
    · rename_i hf; exact ⟨fun n h => by cases h; exact hf, fun z h => by cases h⟩
end Go.Proofs.YtiebknfmmanbiaaDoor
