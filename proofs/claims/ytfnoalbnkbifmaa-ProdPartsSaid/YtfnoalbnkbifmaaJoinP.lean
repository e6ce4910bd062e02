/- Two arrays joined at their first axis, as plain lists. No program in sight; no condition. -/
import Derived.Test.YtfnoalbnkbifmaaPlainInner
import Derived.Test.YtfnoalbnkbifmaaWkFilled
namespace Go.Proofs.Ytfnoalbnkbifmaa
open Go.RowKit
namespace M
/-- One behind the other, along the first axis. -/
def join0 (x y : Arr) : Except Int Arr :=
  if flaws x y ≠ 0 then .error (flaws x y)
  else if x.s.length ≠ y.s.length then .error 3
  else if x.s = [] then .error 5
  else if x.s.tail ≠ y.s.tail then .error 4
  else if x.ch ≠ y.ch then .error 6
  else match count ((x.s.headD 0 + y.s.headD 0) :: x.s.tail) with
  | .error e => .error e
  | .ok _ => .ok ⟨x.ch, (x.s.headD 0 + y.s.headD 0) :: x.s.tail, x.d ++ y.d⟩
end M
/-- A good join: its parts. -/
theorem join0_ok {x y z : Arr} (h : M.join0 x y = .ok z) : ∃ m n u, M.flaw x.ch x.s x.d = 0 ∧ M.flaw y.ch y.s y.d = 0 ∧ x.s = m :: u ∧ y.s = n :: u ∧ x.ch = y.ch ∧ (∃ N, M.count ((m + n) :: u) = .ok N) ∧ z = ⟨x.ch, (m + n) :: u, x.d ++ y.d⟩ := by
  unfold M.join0 at h
  split at h
  · cases h
  · rename_i h1
    have h1 := Decidable.of_not_not h1
    split at h
    · cases h
    · rename_i h2
      split at h
      · cases h
      · rename_i h3
        split at h
        · cases h
        · rename_i h4
          split at h
          · cases h
          · rename_i h5
            split at h
            · cases h
            · rename_i hc
              cases h
              obtain ⟨m, u, hx⟩ : ∃ m u, x.s = m :: u := by
                cases hs : x.s with
                | nil => exact absurd hs h3
                | cons m u => exact ⟨m, u, rfl⟩
              obtain ⟨n, v, hy⟩ : ∃ m u, y.s = m :: u := by
                cases hs : y.s with
                | nil => rw [hs, hx] at h2; simp at h2
                | cons m u => exact ⟨m, u, rfl⟩
              have h4 := Decidable.of_not_not h4
              rw [hx, hy] at h4 hc
              have hf1 : M.flaw x.ch x.s x.d = 0 := by
                unfold M.flaws at h1
                by_cases k : M.flaw x.ch x.s x.d = 0
                · exact k
                · rw [if_neg k] at h1; exact h1
              have hf2 : M.flaw y.ch y.s y.d = 0 := by
                unfold M.flaws at h1
                rw [if_pos hf1] at h1; exact h1
              have h4 : u = v := h4
              subst h4
              exact ⟨m, n, u, hf1, hf2, hx, hy, Decidable.of_not_not h5, ⟨_, hc⟩, by rw [hx, hy]; rfl⟩
theorem join0_of {c : Bool} {m n : Int} {u d d' : List Int} {N : Int} (hx : M.flaw c (m :: u) d = 0) (hy : M.flaw c (n :: u) d' = 0) (hc : M.count ((m + n) :: u) = .ok N) : M.join0 ⟨c, m :: u, d⟩ ⟨c, n :: u, d'⟩ = .ok ⟨c, (m + n) :: u, d ++ d'⟩ := by
  unfold M.join0
  rw [if_neg (by unfold M.flaws; rw [if_pos hx]; exact fun k => k hy), if_neg (by simp), if_neg (by simp), if_neg (by simp), if_neg (by simp)]
  show (match M.count ((m + n) :: u) with | .error e => Except.error e | .ok _ => .ok (⟨c, (m + n) :: u, d ++ d'⟩ : Arr)) = _
  rw [hc]
end Go.Proofs.Ytfnoalbnkbifmaa
