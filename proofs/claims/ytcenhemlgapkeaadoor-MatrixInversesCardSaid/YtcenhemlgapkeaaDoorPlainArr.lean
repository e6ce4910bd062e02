/- Plain facts on arrays: what a sound one is; all its cells in its own shape are it. No condition. -/
import Derived.Test.YtcenhemlgapkeaaDoorBdA
namespace Go.Proofs.YtcenhemlgapkeaaDoor
open Go.RowKit

theorem flaw_ok {ch : Bool} {s d : List Int} (h : M.flaw ch s d = 0) : M.count s = .ok (d.length : Int) ∧ (ch = true → d.any M.noChar = false) := by
  unfold M.flaw at h
  split at h
  · rename_i e he; exact absurd h (count_ne he)
  · rename_i n hn
    split at h
    · cases h
    · rename_i hl
      have hl : (d.length : Int) = n := Decidable.of_not_not hl
      split at h
      · cases h
      · rename_i hc
        refine ⟨by rw [hn, hl], fun hch => ?_⟩
        cases ha : d.any M.noChar with
        | false => rfl
        | true => exact absurd ⟨hch, ha⟩ hc

theorem flaw_mk {ch : Bool} {s d : List Int} (h : M.count s = .ok (d.length : Int)) (hc : ch = true → d.any M.noChar = false) : M.flaw ch s d = 0 := by
  cases ch with
  | false => exact flaw_num h rfl
  | true => exact flaw_chars h rfl (hc rfl)

theorem count_one {n : Nat} (h : n ≤ 4096) : M.count [(n : Int)] = .ok (n : Int) := by
  have := M.count_mk (s := [(n : Int)]) (by simp) (by intro x hx; simp at hx; omega) (by simp [M.prod]; omega)
  simpa [M.prod] using this

theorem cycle_self (d : List Int) (z : Int) : M.cycle d d.length z = d := by
  apply List.ext_getElem
  · exact cycle_length _ _ _
  · intro i h1 h2
    have h0 : d.length ≠ 0 := by omega
    simp [M.cycle, h0, Nat.mod_eq_of_lt h2, h2]

/-- All its cells, on one axis. -/
theorem ravel_sound {ch : Bool} {s d : List Int} (h : M.flaw ch s d = 0) : M.flaw ch [(d.length : Int)] d = 0 :=
  flaw_mk (count_one (flaw_len h).1) (flaw_ok h).2

theorem reshape_self {ch : Bool} {s d t : List Int} (h : M.flaw ch s d = 0) (ht : M.count t = .ok (d.length : Int)) : M.reshape t ⟨ch, s, d⟩ = .ok ⟨ch, t, d⟩ := by
  unfold M.reshape
  rw [ht]
  dsimp only
  rw [if_pos h, Int.toNat_natCast, cycle_self]

end Go.Proofs.YtcenhemlgapkeaaDoor
