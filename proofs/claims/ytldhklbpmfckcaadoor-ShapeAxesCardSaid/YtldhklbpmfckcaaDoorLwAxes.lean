/- The walk of the law ShapeAxes: it returns true whatever the input. Condition: the library's one variable is laid. -/
import Derived.Test.YtldhklbpmfckcaaDoorRefAxes
import Derived.Test.YtldhklbpmfckcaaDoorPlainAxed
import Derived.Test.YtldhklbpmfckcaaDoorWkAxes
import Derived.Test.YtldhklbpmfckcaaDoorInts
import Derived.Test.YtldhklbpmfckcaaDoorTold
namespace Go.Proofs.YtldhklbpmfckcaaDoor
open Go.RowKit

theorem axes_err {s p : List Int} {e : Int} (h : M.axes s p = .error e) : e ≠ 0 := by
  cases hc : M.count s with
  | error n =>
    rw [M.axes, hc] at h
    cases h
    have := M.count_err hc
    omega
  | ok q =>
    rw [M.axes, hc] at h
    simp only at h
    split at h
    · cases h; decide
    · rw [M.axesFrom_err _ _ _ _ _ h]; decide

set_option maxHeartbeats 2000000 in
theorem shapeAxes_walk (p0 : Option Addr) (x0 : List Int) (c0 : Nat) (p1 : Option Addr) (x1 : List Int) (c1 : Nat) (w : World) (r0 : Row w p0 x0) (l0 : x0.length ≤ maxLen) (_ : All64 x0) (r1 : Row w p1 x1) (l1 : x1.length ≤ maxLen) (_ : All64 x1) (hg : Laid w) :
    Calls Tryd.prog 7 #[.slice p0 x0.length c0, .slice p1 x1.length c1] w fun e w' => e = .returned (.bool true) ∧ Below w.heap.size w w' := by
  have href := axed_any p0 p1 x0 x1 _ _ c0 c1 w r0 r1 l0 l1 rfl rfl
  have hax := fun w (h0 : Row w p0 x0) (h1 : Row w p1 x1) => axes_any p0 p1 x0 x1 _ _ c0 c1 w h0 h1 l0 l1 rfl rfl
  rw [M.axed_axes] at href
  cases hr : M.axes x0 x1 with
  | error n =>
    have hn := axes_err hr
    have hev := Lib.hid (errN_ne hn)
    have hnn : (n == n) = true := beq_self_eq_true n
    replace hn := Lib.hid hn
    replace href := Lib.hid href
    replace hax := Lib.hid hax
    replace hr := Lib.hid hr
    go_enter Tryd.func7, Tryd.ntmps7
    go_wp2_with fail
    refine href.out.mono ?_
    intro e w1 hp
    obtain rfl := hp.1 n hr.out
    have b1 := hp.2.2
    clear hp
    go_wp2_with fail
    refine (hax.out w1 (r0.below b1) (r1.below b1)).mono ?_
    intro e w2 hp
    obtain rfl := hp.1 n hr.out
    have b2 := below_trans b1 hp.2.2
    clear hp b1
    go_wp2_with fail
    rw [← hev.out]
    refine (error_any n n w2 (hg.below b2)).mono ?_
    rintro e w3 ⟨rfl, b3⟩
    rw [hev.out, hnn]
    replace b3 := below_trans b2 b3
    go_wp2_with fail
    refine (ints_any none none [] [] 0 0 0 0 w3 (Row.nil _ _) (Row.nil _ _) (Nat.zero_le _) (Nat.zero_le _) rfl rfl).mono ?_
    rintro e w4 ⟨rfl, nd, rfl⟩
    rw [decide_eq_true (rfl : ([] : List Int) = [])]
    go_wp2
    go_ret
    exact ⟨rfl, below_drewN b3 _⟩
  | ok t =>
    have hlt : t.length ≤ maxLen := by
      have h1 := (M.axes_ok hr).2.2.1
      omega
    replace href := Lib.hid href
    replace hax := Lib.hid hax
    replace hr := Lib.hid hr
    go_enter Tryd.func7, Tryd.ntmps7
    go_wp2_with fail
    refine href.out.mono ?_
    intro e w1 hp
    obtain ⟨a1, k1, rfl, q1⟩ := hp.2.1 t hr.out
    have b1 := hp.2.2
    clear hp
    go_wp2_with fail
    refine (hax.out w1 (r0.below b1) (r1.below b1)).mono ?_
    intro e w2 hp
    obtain ⟨v2, rfl, o2⟩ := hp.2.1 t hr.out
    have b12 := hp.2.2
    clear hp
    obtain ⟨a2, k2, rfl, _, _, q2⟩ := o2.view
    replace q1 := q1.below b12
    have b2 := below_trans b1 b12
    clear b1 b12 o2
    go_wp2_with fail
    refine (error_any 0 0 w2 (hg.below b2)).mono ?_
    rintro e w3 ⟨rfl, b3⟩
    replace q1 := q1.below b3
    replace q2 := q2.below b3
    replace b3 := below_trans b2 b3
    go_wp2_with fail
    refine (ints_any a2 a1 t t _ _ k2 k1 w3 q2 q1 hlt hlt rfl rfl).mono ?_
    rintro e w4 ⟨rfl, nd, rfl⟩
    rw [decide_eq_true (rfl : t = t)]
    go_wp2
    go_ret
    exact ⟨rfl, below_drewN b3 _⟩

end Go.Proofs.YtldhklbpmfckcaaDoor
