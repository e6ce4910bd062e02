/- The document's TwoCells and Compares: two arrays' cells at one place. Condition: ints of 64 bits. -/
import Derived.Test.YtcenhemlgapkeaaDoorBdZ
import Derived.Test.YtcenhemlgapkeaaDoorRefTwo
import Derived.Test.YtcenhemlgapkeaaDoorBdW
namespace Go.Proofs.YtcenhemlgapkeaaDoor
open Go.RowKit

theorem refCompares_any (f : Int) (w : World) : Calls Tryd.prog 61 #[.int .i64 f] w fun e w' => e = .returned (.bool (M.cmp f)) ∧ w = w' := by
  by_cases h8 : f = 8
  · subst h8
    go_enter Tryd.func61, Tryd.ntmps61
    go_wp2
    go_ret
    exact ⟨rfl, rfl⟩
  · have e8 : (f == 8) = false := beq_eq_false_iff_ne.2 h8
    by_cases h9 : f = 9
    · subst h9
      go_enter Tryd.func61, Tryd.ntmps61
      go_wp2
      go_ret
      exact ⟨rfl, rfl⟩
    · have e9 : (f == 9) = false := beq_eq_false_iff_ne.2 h9
      have hc := Lib.hid (show M.cmp f = false by unfold M.cmp; rw [e8, e9]; rfl)
      replace h8 := Lib.hid h8
      replace h9 := Lib.hid h9
      go_enter Tryd.func61, Tryd.ntmps61
      go_wp2
      go_ret
      exact ⟨by rw [hc.out]; rfl, rfl⟩

/-- The result of a call of the document's that tells an int and an error's number, 0 beside an error. -/
theorem twoCells_any (f : Int) (c1 c2 : Bool) (a b : Int) (w : World) (ha : I64 a) (hb : I64 b) :
    Calls Tryd.prog 65 #[.int .i64 f, .bool c1, .int .i64 a, .bool c2, .int .i64 b] w fun e w' => e = .returned (refI (M.tw f c1 c2 a b)) ∧ w = w' := by
  by_cases hc : c1 = c2
  · subst hc
    have ht := Lib.hid (show M.tw f c1 c1 a b = M.two f a b from if_pos rfl)
    have t1 : (c1 == c1) = true := beq_self_eq_true c1
    have h2 := refTwo_any f a b w ha hb
    cases hr : M.two f a b with
    | ok v =>
      rw [hr] at h2 ht
      replace h2 := Lib.hid h2
      replace hr := Lib.hid hr
      go_enter Tryd.func65, Tryd.ntmps65
      go_wp2_with fail
      refine h2.out.mono ?_
      rintro e w' ⟨rfl, rfl⟩
      dsimp only [refI]
      go_wp2
      go_ret2
      exact ⟨by rw [ht.out]; rfl, rfl⟩
    | error v =>
      rw [hr] at h2 ht
      replace h2 := Lib.hid h2
      replace hr := Lib.hid hr
      go_enter Tryd.func65, Tryd.ntmps65
      go_wp2_with fail
      refine h2.out.mono ?_
      rintro e w' ⟨rfl, rfl⟩
      dsimp only [refI]
      go_wp2
      go_ret2
      exact ⟨by rw [ht.out]; rfl, rfl⟩
  · have t1 : (c1 == c2) = false := beq_eq_false_iff_ne.2 hc
    have ht := Lib.hid (show M.tw f c1 c2 a b = .ok (if f = 9 then 1 else 0) from if_neg hc)
    have htr := Lib.hid (truth_any (f == 9))
    replace hc := Lib.hid hc
    go_enter Tryd.func65, Tryd.ntmps65
    go_wp2_with fail
    refine (htr.out _).mono ?_
    rintro e w' ⟨rfl, rfl⟩
    go_wp2
    go_ret2
    refine ⟨?_, rfl⟩
    rw [ht.out]
    by_cases h9 : f = 9
    · subst h9; rfl
    · rw [if_neg h9, beq_eq_false_iff_ne.2 h9]; rfl

theorem tw_err {f : Int} {c1 c2 : Bool} {a b e : Int} (h : M.tw f c1 c2 a b = .error e) : e ≠ 0 := by
  unfold M.tw at h
  split at h
  · exact two_err h
  · cases h

end Go.Proofs.YtcenhemlgapkeaaDoor
