/- What functions of two numbers tell without an error is of 64 bits. No program in sight. -/
import Derived.Test.YtfnoalbnkbifmaaWkCell
namespace Go.Proofs.Ytfnoalbnkbifmaa
open Go.RowKit

theorem I64_bits (op : BinOp) (a b : Int) (h : op = .and ∨ op = .or) : I64 (bits op .i64 a b) := by
  rcases h with rfl | rfl
  all_goals
    simp only [bits]
    rw [IntWalk.i64_left]
    exact I64_wrap _

theorem I64_bit (p : Bool) : I64 (M.bit p) := by cases p <;> (simp only [M.bit]; unfold I64; decide)

theorem I64_floor (a b : Int) (ha : I64 a) : I64 (M.floor a b) := by
  unfold M.floor
  split
  · exact I64_wrap _
  · rename_i h1
    split
    · rename_i h
      by_cases h0 : b = 0
      · subst h0
        simp at h
        simp only [Int.tdiv_zero]
        unfold I64; omega
      · exact (tdiv_in ha h0 h1 h.1).2
    · exact tdiv_in' ha h1

/-- What is told without an error is of 64 bits. -/
def Fits (r : Except Int Int) : Prop := ∀ n, r = .ok n → I64 n
theorem fits_ok {n : Int} (h : I64 n) : Fits (.ok n) := fun _ e => by rw [← Except.ok.inj e]; exact h
theorem fits_error (n : Int) : Fits (.error n) := fun _ e => by cases e
theorem fits_ite {c : Prop} [Decidable c] {x y : Except Int Int} (hx : Fits x) (hy : Fits y) : Fits (if c then x else y) := by split <;> assumption

theorem I64_two {f a b n : Int} (ha : I64 a) (hb : I64 b) (h : M.two f a b = .ok n) : I64 n := by
  have hf : Fits (M.two f a b) := by
    unfold M.two
    refine fits_ite (fits_ok (I64_wrap _)) (fits_ite (fits_ok (I64_wrap _)) (fits_ite (fits_ok (I64_wrap _)) (fits_ite (fits_ite (fits_error _) (fits_ok (I64_floor _ _ ha)))
      (fits_ite (fits_ite (fits_ok hb) (fits_ok (I64_wrap _))) (fits_ite (fits_ok ?_) (fits_ite (fits_ok ?_) (fits_ite (fits_ok (I64_bit _)) (fits_ite (fits_ok (I64_bit _)) (fits_ite (fits_ok (I64_bit _))
      (fits_ite (fits_ok (I64_bit _)) (fits_ite (fits_ok (I64_bit _)) (fits_ite (fits_ok (I64_bit _)) (fits_ite (fits_ok (I64_bits _ _ _ (.inl rfl))) (fits_ite (fits_ok (I64_bits _ _ _ (.inr rfl)))
      (fits_ite (fits_ite (fits_error _) (fits_ok (I64_wrap _))) (fits_error _))))))))))))))))
    · split <;> assumption
    · split <;> assumption
  exact hf n h

end Go.Proofs.Ytfnoalbnkbifmaa
