/- Texts that lie in one file: what is plain, rows, boxes, squares, and what is known of a world. No condition. -/
import Derived.Test.YtcenhemlgapkeaaDoorBdA
import Derived.Test.YtcenhemlgapkeaaDoorBdQ
/- Plain facts on arrays: what a sound one is; all its cells in its own shape are it. No condition. -/
namespace Go.Proofs.YtcenhemlgapkeaaDoor
open Go.RowKit

theorem flaw_ok {ch : Bool} {s d : List Int} (h : M.flaw ch s d = 0) : M.count s = .ok (d.length : Int) ∧ (ch = true → d.any M.noChar = false) := by
  unfold M.flaw at h
  split at h
  · rename_i e he; exact absurd h (count_ne he)
  · rename_i n hn
    split at h
    · cases h
    · rename_i hl
      have hl : (d.length : Int) = n := Decidable.of_not_not hl
      split at h
      · cases h
      · rename_i hc
        refine ⟨by rw [hn, hl], fun hch => ?_⟩
        cases ha : d.any M.noChar with
        | false => rfl
        | true => exact absurd ⟨hch, ha⟩ hc

theorem flaw_mk {ch : Bool} {s d : List Int} (h : M.count s = .ok (d.length : Int)) (hc : ch = true → d.any M.noChar = false) : M.flaw ch s d = 0 := by
  cases ch with
  | false => exact flaw_num h rfl
  | true => exact flaw_chars h rfl (hc rfl)

theorem count_one {n : Nat} (h : n ≤ 4096) : M.count [(n : Int)] = .ok (n : Int) := by
  have := M.count_mk (s := [(n : Int)]) (by simp) (by intro x hx; simp at hx; omega) (by simp [M.prod]; omega)
  simpa [M.prod] using this

theorem cycle_self (d : List Int) (z : Int) : M.cycle d d.length z = d := by
  apply List.ext_getElem
  · exact cycle_length _ _ _
  · intro i h1 h2
    have h0 : d.length ≠ 0 := by omega
    simp [M.cycle, h0, Nat.mod_eq_of_lt h2, h2]

/-- All its cells, on one axis. -/
theorem ravel_sound {ch : Bool} {s d : List Int} (h : M.flaw ch s d = 0) : M.flaw ch [(d.length : Int)] d = 0 :=
  flaw_mk (count_one (flaw_len h).1) (flaw_ok h).2

theorem reshape_self {ch : Bool} {s d t : List Int} (h : M.flaw ch s d = 0) (ht : M.count t = .ok (d.length : Int)) : M.reshape t ⟨ch, s, d⟩ = .ok ⟨ch, t, d⟩ := by
  unfold M.reshape
  rw [ht]
  dsimp only
  rw [if_pos h, Int.toNat_natCast, cycle_self]

end Go.Proofs.YtcenhemlgapkeaaDoor

/- Functions of two numbers on the cells of two arrays, in plain data. No condition. -/
namespace Go.Proofs.YtcenhemlgapkeaaDoor
open Go.RowKit

namespace M
/-- A function of two numbers? -/
def fn2 (f : Int) : Bool := decide (1 ≤ f ∧ f ≤ 16)
/-- 1 where one of the two is no such function. -/
def unk (f g : Int) : Int := if (fn2 f && fn2 g) = true then 0 else 1
def cmp (f : Int) : Bool := f == 8 || f == 9
def flaws (x y : Arr) : Int := if flaw x.ch x.s x.d = 0 then flaw y.ch y.s y.d else flaw x.ch x.s x.d
/-- Two arrays' cells. -/
def tw (g : Int) (c1 c2 : Bool) (a b : Int) : Except Int Int := if c1 = c2 then two g a b else .ok (if g = 9 then 1 else 0)
end M

theorem two_known {f : Int} (h : M.fn2 f = true) : ∃ v, M.two f 0 1 = .ok v := by
  have h1 : 1 ≤ f ∧ f ≤ 16 := of_decide_eq_true h
  have hs : f = 1 ∨ f = 2 ∨ f = 3 ∨ f = 4 ∨ f = 5 ∨ f = 6 ∨ f = 7 ∨ f = 8 ∨ f = 9 ∨ f = 10 ∨ f = 11 ∨ f = 12 ∨ f = 13 ∨ f = 14 ∨ f = 15 ∨ f = 16 := by omega
  rcases hs with rfl | rfl | rfl | rfl | rfl | rfl | rfl | rfl | rfl | rfl | rfl | rfl | rfl | rfl | rfl | rfl <;> exact ⟨_, rfl⟩
theorem two_unknown {f : Int} (h : M.fn2 f = false) (a b : Int) : M.two f a b = .error 1 := by
  have h1 : ¬ (1 ≤ f ∧ f ≤ 16) := of_decide_eq_false h
  unfold M.two
  repeat rw [if_neg (by omega)]

end Go.Proofs.YtcenhemlgapkeaaDoor

/- When an array is a square of at most six rows. No program in sight; no condition. -/
namespace Go.Proofs.YtcenhemlgapkeaaDoor
open Go.RowKit

theorem sq_mk {n : Nat} {d : List Int} (hn : n ≤ 6) (hl : d.length = n * n) : M.sqFault ⟨false, [(n : Int), (n : Int)], d⟩ 6 = 0 := by
  have hp : M.prod [(n : Int), (n : Int)] = (n * n : Nat) := by simp [M.prod]
  have hnn : n * n ≤ 6 * 6 := Nat.mul_le_mul hn hn
  have hc : M.count [(n : Int), (n : Int)] = .ok ((n * n : Nat) : Int) := by
    have h1 : n = 0 ∨ n = 1 ∨ n = 2 ∨ n = 3 ∨ n = 4 ∨ n = 5 ∨ n = 6 := by omega
    rcases h1 with rfl | rfl | rfl | rfl | rfl | rfl | rfl <;> rfl
  have hf : M.flaw false [(n : Int), (n : Int)] d = 0 := flaw_num hc (by rw [hl])
  unfold M.sqFault
  simp only [List.getD_cons_zero, List.getD_cons_succ, List.length_cons, List.length_nil]
  rw [hf, if_neg (by decide), if_neg (by decide), if_neg (by simp), if_neg (by omega), if_neg (by simp)]

theorem sq_parts {x : Arr} (h : M.sqFault x 6 = 0) : ∃ n : Nat, n ≤ 6 ∧ x.ch = false ∧ x.s = [(n : Int), (n : Int)] ∧ x.d.length = n * n ∧ M.sqN x = n := by
  obtain ⟨ch, s, d⟩ := x
  unfold M.sqFault at h
  simp only at h
  by_cases hf : M.flaw ch s d = 0
  case neg => rw [if_pos hf] at h; exact absurd h hf
  rw [if_neg (fun k => k hf)] at h
  by_cases hl : s.length = 2
  case neg => rw [if_pos hl] at h; cases h
  rw [if_neg (fun k => k hl)] at h
  obtain ⟨u, v, rfl⟩ : ∃ u v, s = [u, v] := by
    match s, hl with
    | [u, v], _ => exact ⟨u, v, rfl⟩
  simp only [List.getD_cons_zero, List.getD_cons_succ] at h
  by_cases he : u = v
  case neg => rw [if_pos he] at h; cases h
  subst he
  rw [if_neg (fun k => k rfl)] at h
  by_cases hg : 6 < u
  case pos => rw [if_pos hg] at h; cases h
  rw [if_neg hg] at h
  cases ch
  case true => rw [if_pos rfl] at h; cases h
  obtain ⟨q, hq, hlen⟩ := flaw_parts hf
  have h0 := ((M.count_ok hq).2.1 u (by simp)).1
  have hqq := (M.count_ok hq).2.2.1
  obtain ⟨n, rfl⟩ : ∃ n : Nat, u = n := ⟨u.toNat, by omega⟩
  refine ⟨n, by omega, rfl, rfl, ?_, rfl⟩
  rw [hqq] at hlen
  simp only [M.prod, Int.mul_one] at hlen
  exact_mod_cast hlen

end Go.Proofs.YtcenhemlgapkeaaDoor
