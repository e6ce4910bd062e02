/- The worth of the two lines of the law TopSchool. Condition: a base from 2 to 1000, a number below its third power. -/
import Derived.Test.YtaplaoelamnoiaaGreatDoorBd20
import Derived.Test.YtaplaoelamnoiaaGreatDoorPrSchool
import Derived.Test.YtaplaoelamnoiaaGreatDoorScPlain
namespace Go.Proofs.YtaplaoelamnoiaaGreatDoor
open Go.RowKit

theorem one_flaw (v : Int) : M.flaw false [] [v] = 0 := by simp [M.flaw, M.count, M.badLen, M.mulUp]
theorem three_flaw (a b c : Int) : M.flaw false [3] [a, b, c] = 0 := by simp [M.flaw, M.count, M.badLen, M.mulUp]
theorem resh_three (b : Int) : M.reshape [3] ⟨false, [], [b]⟩ = .ok ⟨false, [3], [b, b, b]⟩ := by
  unfold M.reshape
  have h : M.count [3] = .ok 3 := by simp [M.count, M.badLen, M.mulUp]
  rw [h]
  show (if M.flaw false [] [b] = 0 then _ else _) = _
  rw [if_pos (one_flaw b), show M.cycle [b] (Int.toNat 3) (M.fill false) = [b, b, b] by simp [M.cycle, List.range_succ]]
theorem i64_of {n : Int} (h0 : -9000000000 ≤ n) (h1 : n ≤ 9000000000) : I64 n := by unfold I64; omega
theorem s1_val : ValOk (envOf []) M.s1E ⟨false, [3], [4, 7, 2]⟩ := by
  have hd : M.digs [10, 10, 10] 472 = ([4, 7, 2], 0) := digs_three (b := 10) (n := 472) (by decide) (by decide) (by decide)
  have h2 := prim_enc [3] [10, 10, 10] 472 (by decide) (three_flaw 10 10 10) (one_flaw 472) (fun x hx => by simp at hx; subst hx; exact i64_of (by decide) (by decide)) (i64_of (by decide) (by decide)) (by decide)
  rw [hd] at h2
  exact val_small _ _ _ (.two 0 31 0 _ _ _ _ _ (.nums [10, 10, 10] (by simp) (by simp)) (.nums [472] (by simp) (by simp)) (by decide) h2) (by simp [M.s1E, Ex.small]) (by simp [M.s1E, Ex.plain])
/-- The two names of the law. -/
abbrev scWs (b n : Int) : List Bd := [⟨⟨#[98]⟩, ⟨false, [], [b]⟩⟩, ⟨⟨#[110]⟩, ⟨false, [], [n]⟩⟩]
theorem scWs_ok (b n : Int) : WsOk (scWs b n) := by
  refine ⟨by simp, ?_, ?_⟩
  · intro x hx
    simp only [List.mem_cons, List.not_mem_nil, or_false] at hx
    rcases hx with rfl | rfl
    · exact ⟨name_b, (by show (1 : Nat) ≤ 100; decide), one_flaw b⟩
    · exact ⟨name_n, (by show (1 : Nat) ≤ 100; decide), one_flaw n⟩
  · intro i j x y hi hj hij
    have hj2 : j < 2 := (List.getElem?_eq_some_iff.1 hj).1
    have e1 : i = 0 := by omega
    have e2 : j = 1 := by omega
    subst e1
    subst e2
    cases hi
    cases hj
    intro e
    injection e with e
    exact absurd e (by show ¬ ([98] : List UInt8) = [110]; decide)
theorem s2_val {b n : Int} (hb : 2 ≤ b) (hb2 : b ≤ 1000) (h0 : 0 ≤ n) (h1 : n < b * b * b) : ValOk (envOf (scWs b n)) M.s2E ⟨false, [], [n]⟩ := by
  have hbb : b * b ≤ 1000 * 1000 := Int.mul_le_mul hb2 hb2 (by omega) (by omega)
  have hbbb : b * b * b ≤ 1000 * 1000 * 1000 := Int.mul_le_mul hbb hb2 (by omega) (by omega)
  have eb : Ev (envOf (scWs b n)) (.name ⟨#[98]⟩) ⟨false, [], [b]⟩ := .name _ _ (by simp [envOf, scWs])
  have en : Ev (envOf (scWs b n)) (.name ⟨#[110]⟩) ⟨false, [], [n]⟩ := .name _ _ (by simp [envOf, scWs])
  have k1 := prim_resh [] [3] ⟨false, [], [b]⟩ _ (by decide) (one_flaw 3) (one_flaw b) (resh_three b)
  have k2 := prim_enc [3] [b, b, b] n (by decide) (three_flaw b b b) (one_flaw n) (fun x hx => by simp at hx; subst hx; exact i64_of (by omega) (by omega)) (i64_of (by omega) (by omega)) (by simp)
  have hbk := school_back hb hb2 h0 h1
  rw [digs_three hb h0 (by omega)] at k2 hbk
  generalize n / b / b % b = d0 at *
  generalize n / b % b = d1 at *
  generalize n % b = d2 at *
  have k3 := prim_dec b [3] [d0, d1, d2] (one_flaw b) (by decide) (three_flaw d0 d1 d2) (by simp)
  rw [show M.radV (List.replicate [d0, d1, d2].length b) [d0, d1, d2] [d0, d1, d2].length = n from hbk] at k3
  exact val_small _ _ _ (.two 0 30 0 _ _ _ _ _ eb (.two 0 31 0 _ _ _ _ _ (.two 0 18 0 _ _ _ _ _ (.nums [3] (by simp) (by simp)) eb (by decide) k1) en (by decide) k2) (by decide) k3) (by simp [M.s2E, Ex.small]) (by simp [M.s2E, Ex.plain])
end Go.Proofs.YtaplaoelamnoiaaGreatDoor
