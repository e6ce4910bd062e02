/- The helper two of the statements: it returns V f a b (what M.two tells, -77 for an error); nothing in memory turns. Condition: the numbers are of 64 bits. -/
import Derived.Test.YtldhklbpmfckcaaDoorWkCell
namespace Go.Proofs.YtldhklbpmfckcaaDoor
open Go.RowKit

/-- What the statements' helper two tells. -/
def V (f a b : Int) : Int := wrap64 (match M.two f a b with | .ok n => n | .error _ => -77)

theorem I64_V (f a b : Int) : I64 (V f a b) := I64_wrap _

theorem I64_bits (op : BinOp) (a b : Int) (h : op = .and ∨ op = .or) : I64 (bits op .i64 a b) := by
  rcases h with rfl | rfl
  all_goals
    simp only [bits]
    rw [IntWalk.i64_left]
    exact I64_wrap _

theorem I64_bit (p : Bool) : I64 (M.bit p) := by cases p <;> (simp only [M.bit]; unfold I64; decide)

theorem I64_floor (a b : Int) (ha : I64 a) : I64 (M.floor a b) := by
  unfold M.floor
  split
  · exact I64_wrap _
  · rename_i h1
    split
    · rename_i h
      by_cases h0 : b = 0
      · subst h0
        simp at h
        simp only [Int.tdiv_zero]
        unfold I64; omega
      · exact (tdiv_in ha h0 h1 h.1).2
    · exact tdiv_in' ha h1

/-- What is told without an error is of 64 bits. -/
def Fits (r : Except Int Int) : Prop := ∀ n, r = .ok n → I64 n
theorem fits_ok {n : Int} (h : I64 n) : Fits (.ok n) := fun _ e => by rw [← Except.ok.inj e]; exact h
theorem fits_error (n : Int) : Fits (.error n) := fun _ e => by cases e
theorem fits_ite {c : Prop} [Decidable c] {x y : Except Int Int} (hx : Fits x) (hy : Fits y) : Fits (if c then x else y) := by split <;> assumption

theorem I64_two {f a b n : Int} (ha : I64 a) (hb : I64 b) (h : M.two f a b = .ok n) : I64 n := by
  have hf : Fits (M.two f a b) := by
    unfold M.two
    refine fits_ite (fits_ok (I64_wrap _)) (fits_ite (fits_ok (I64_wrap _)) (fits_ite (fits_ok (I64_wrap _)) (fits_ite (fits_ite (fits_error _) (fits_ok (I64_floor _ _ ha)))
      (fits_ite (fits_ite (fits_ok hb) (fits_ok (I64_wrap _))) (fits_ite (fits_ok ?_) (fits_ite (fits_ok ?_) (fits_ite (fits_ok (I64_bit _)) (fits_ite (fits_ok (I64_bit _)) (fits_ite (fits_ok (I64_bit _))
      (fits_ite (fits_ok (I64_bit _)) (fits_ite (fits_ok (I64_bit _)) (fits_ite (fits_ok (I64_bit _)) (fits_ite (fits_ok (I64_bits _ _ _ (.inl rfl))) (fits_ite (fits_ok (I64_bits _ _ _ (.inr rfl)))
      (fits_ite (fits_ite (fits_error _) (fits_ok (I64_wrap _))) (fits_error _))))))))))))))))
    · split <;> assumption
    · split <;> assumption
  exact hf n h

theorem V_ok {f a b n : Int} (ha : I64 a) (hb : I64 b) (h : M.two f a b = .ok n) : V f a b = n := by
  rw [V, h]
  exact wrap_id (I64_two ha hb h)

set_option maxHeartbeats 400000 in
theorem two_any (f a b : Int) (w : World) (ha : I64 a) (hb : I64 b) : Calls Tryd.prog 31 #[.int .i64 f, .int .i64 a, .int .i64 b] w fun e w' => e = .returned (.int .i64 (V f a b)) ∧ ∃ n, w' = w.drewN n := by
  have hc := cellTwo_any f a b w ha hb
  cases hr : M.two f a b with
  | ok n =>
    have hv := Lib.hid (V_ok ha hb hr)
    rw [hr] at hc
    clear hr
    go_enter Tryd.func31, Tryd.ntmps31
    go_wp2_with fail
    refine hc.mono ?_
    rintro e w' ⟨rfl, nd, rfl⟩
    dsimp only [resI]
    go_wp2_with fail
    go_ret
    exact ⟨by rw [hv.out]; rfl, _, rfl⟩
  | error n =>
    have hv := Lib.hid (show V f a b = -77 by rw [V, hr]; exact wrap_id (show I64 (-77) by unfold I64; decide))
    rw [hr] at hc
    clear hr
    go_enter Tryd.func31, Tryd.ntmps31
    go_wp2_with fail
    refine hc.mono ?_
    rintro e w' ⟨rfl, nd, rfl⟩
    dsimp only [resI]
    go_wp2_with fail
    go_ret
    exact ⟨by rw [hv.out]; rfl, _, rfl⟩

end Go.Proofs.YtldhklbpmfckcaaDoor
