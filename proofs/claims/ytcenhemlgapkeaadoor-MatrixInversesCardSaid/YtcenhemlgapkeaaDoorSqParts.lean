/- When an array is a square of at most six rows. No program in sight; no condition. -/
import Derived.Test.YtcenhemlgapkeaaDoorBdQ
import Derived.Test.YtcenhemlgapkeaaDoorPlainArr
namespace Go.Proofs.YtcenhemlgapkeaaDoor
open Go.RowKit

theorem sq_mk {n : Nat} {d : List Int} (hn : n ≤ 6) (hl : d.length = n * n) : M.sqFault ⟨false, [(n : Int), (n : Int)], d⟩ 6 = 0 := by
  have hp : M.prod [(n : Int), (n : Int)] = (n * n : Nat) := by simp [M.prod]
  have hnn : n * n ≤ 6 * 6 := Nat.mul_le_mul hn hn
  have hc : M.count [(n : Int), (n : Int)] = .ok ((n * n : Nat) : Int) := by
    have h1 : n = 0 ∨ n = 1 ∨ n = 2 ∨ n = 3 ∨ n = 4 ∨ n = 5 ∨ n = 6 := by omega
    rcases h1 with rfl | rfl | rfl | rfl | rfl | rfl | rfl <;> rfl
  have hf : M.flaw false [(n : Int), (n : Int)] d = 0 := flaw_num hc (by rw [hl])
  unfold M.sqFault
  simp only [List.getD_cons_zero, List.getD_cons_succ, List.length_cons, List.length_nil]
  rw [hf, if_neg (by decide), if_neg (by decide), if_neg (by simp), if_neg (by omega), if_neg (by simp)]

theorem sq_parts {x : Arr} (h : M.sqFault x 6 = 0) : ∃ n : Nat, n ≤ 6 ∧ x.ch = false ∧ x.s = [(n : Int), (n : Int)] ∧ x.d.length = n * n ∧ M.sqN x = n := by
  obtain ⟨ch, s, d⟩ := x
  unfold M.sqFault at h
  simp only at h
  by_cases hf : M.flaw ch s d = 0
  case neg => rw [if_pos hf] at h; exact absurd h hf
  rw [if_neg (fun k => k hf)] at h
  by_cases hl : s.length = 2
  case neg => rw [if_pos hl] at h; cases h
  rw [if_neg (fun k => k hl)] at h
  obtain ⟨u, v, rfl⟩ : ∃ u v, s = [u, v] := by
    match s, hl with
    | [u, v], _ => exact ⟨u, v, rfl⟩
  simp only [List.getD_cons_zero, List.getD_cons_succ] at h
  by_cases he : u = v
  case neg => rw [if_pos he] at h; cases h
  subst he
  rw [if_neg (fun k => k rfl)] at h
  by_cases hg : 6 < u
  case pos => rw [if_pos hg] at h; cases h
  rw [if_neg hg] at h
  cases ch
  case true => rw [if_pos rfl] at h; cases h
  obtain ⟨q, hq, hlen⟩ := flaw_parts hf
  have h0 := ((M.count_ok hq).2.1 u (by simp)).1
  have hqq := (M.count_ok hq).2.2.1
  obtain ⟨n, rfl⟩ : ∃ n : Nat, u = n := ⟨u.toNat, by omega⟩
  refine ⟨n, by omega, rfl, rfl, ?_, rfl⟩
  rw [hqq] at hlen
  simp only [M.prod, Int.mul_one] at hlen
  exact_mod_cast hlen

end Go.Proofs.YtcenhemlgapkeaaDoor
