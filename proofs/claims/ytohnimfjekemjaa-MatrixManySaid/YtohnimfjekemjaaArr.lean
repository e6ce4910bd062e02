/- Arrays, as plain lists: what is wrong with one (M.flaw), when two match, cells again and again (M.cycle). No condition. -/
import Derived.Test.YtohnimfjekemjaaCount
namespace Go.Proofs.Ytohnimfjekemjaa
open Go.RowKit

/-- An array of the language, as a value. -/
abbrev arrV (ch : Bool) (a : Option Addr) (m c : Nat) (b : Option Addr) (n k : Nat) : Value := .agg #[.bool ch, .slice a m c, .slice b n k]

namespace M

/-- A number that is no character. -/
def noChar (c : Int) : Bool := decide (c < 0) || (decide (1114111 < c) || (decide (55296 ≤ c) && decide (c ≤ 57343)))

def flaw (ch : Bool) (s d : List Int) : Int :=
  match count s with
  | .error e => e
  | .ok n => if (d.length : Int) ≠ n then 4 else if ch = true ∧ d.any noChar = true then 6 else 0

end M

theorem anyChar_drop {d : List Int} {k : Nat} (h : k < d.length) : (d.drop k).any M.noChar = (M.noChar d[k] || (d.drop (k + 1)).any M.noChar) := by
  rw [List.drop_eq_getElem_cons h, List.any_cons]

theorem count_ne {s : List Int} {e : Int} (h : M.count s = .error e) : e ≠ 0 := by
  have up : ∀ (s : List Int) (a e : Int), M.mulUp a s = .error e → e ≠ 0 := by
    intro s
    induction s with
    | nil => intro a e h; simp [M.mulUp] at h
    | cons n r ih =>
      intro a e h
      simp only [M.mulUp] at h
      split at h
      · cases h; decide
      · exact ih _ _ h
  unfold M.count at h
  split at h
  · cases h; decide
  · split at h
    · rename_i h1; cases h; exact h1
    · split at h
      · cases h
      · exact up _ _ _ h

theorem flaw_error {ch : Bool} {s d : List Int} {e : Int} (h : M.count s = .error e) : M.flaw ch s d = e := by unfold M.flaw; rw [h]
theorem flaw_length {ch : Bool} {s d : List Int} {n : Int} (h : M.count s = .ok n) (h1 : (d.length : Int) ≠ n) : M.flaw ch s d = 4 := by unfold M.flaw; rw [h]; exact if_pos h1
theorem flaw_num {s d : List Int} {n : Int} (h : M.count s = .ok n) (h1 : (d.length : Int) = n) : M.flaw false s d = 0 := by unfold M.flaw; rw [h]; simp [h1]
theorem flaw_char {s d : List Int} {n : Int} (h : M.count s = .ok n) (h1 : (d.length : Int) = n) (h2 : d.any M.noChar = true) : M.flaw true s d = 6 := by unfold M.flaw; rw [h]; simp [h1, h2]
theorem flaw_chars {s d : List Int} {n : Int} (h : M.count s = .ok n) (h1 : (d.length : Int) = n) (h2 : d.any M.noChar = false) : M.flaw true s d = 0 := by unfold M.flaw; rw [h]; simp [h1, h2]

theorem errV_ne {e : Int} (h : e ≠ 0) : errV e = .iface 67 (.int .i64 e) := if_neg h
theorem errV_zero : errV 0 = .nilIface := rfl

end Go.Proofs.Ytohnimfjekemjaa
