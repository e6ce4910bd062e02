/- The walk of the law ShapeFlips: it returns true whatever the input, and writes nothing that was there. -/
import Derived.Test.YtldhklbpmfckcaaPlainPerm
import Derived.Test.YtldhklbpmfckcaaWkAxes
import Derived.Test.YtldhklbpmfckcaaSame
namespace Go.Proofs.Ytldhklbpmfckcaa
open Go.RowKit

theorem fact_axes : M.axes [2, 3, 4] [1, 2, 0] = .ok [4, 2, 3] := by
  rw [M.axes, M.count_mk (s := [2, 3, 4]) (by decide) (by decide) (by decide)]
  rfl

theorem listPost_ok {r : Except Int (List Int)} {c : List Int} {w w' : World} {e : Ending} (h : ListPost r w e w') (hr : r = .ok c) :
    ∃ a k, e = .returned (.tuple #[.slice a c.length k, .nilIface]) ∧ Row w' a c ∧ Below w.heap.size w w' := by
  obtain ⟨v, he, ho⟩ := h.2.1 c hr
  obtain ⟨a, k, rfl, _, _, hrow⟩ := ho.view
  exact ⟨a, k, he, hrow, h.2.2⟩

theorem listPost_error {r : Except Int (List Int)} {n : Int} {w w' : World} {e : Ending} (h : ListPost r w e w') (hr : r = .error n) :
    e = .returned (.tuple #[.slice none 0 0, .iface 27 (.int .i64 n)]) ∧ Below w.heap.size w w' := ⟨h.1 n hr, h.2.2⟩

set_option maxHeartbeats 2000000 in
theorem shapeFlips_walk (a0 : Option Addr) (s : List Int) (c0 : Nat) (a1 : Option Addr) (p : List Int) (c1 : Nat) (w : World) (h0 : Row w a0 s) (l0 : s.length ≤ maxLen) (_ : All64 s)
    (h1 : Row w a1 p) (l1 : p.length ≤ maxLen) (_ : All64 p) :
    Calls Try.prog 6 #[.slice a0 s.length c0, .slice a1 p.length c1] w fun e w' => e = .returned (.bool true) ∧ Below w.heap.size w w' := by
  go_enter Try.func6, Try.ntmps6
  go_wp2_with fail
  refine (axes_any _ _ [2, 3, 4] [1, 2, 0] 3 3 3 3 _ (by exact (row_lit w _ _ _ rfl).alloc _) (by exact row_lit1 w _ _ _ _ rfl) (by decide) (by decide) rfl rfl).mono ?_
  intro e w2 hpost
  obtain ⟨a2, k2, rfl, r2, b2⟩ := listPost_ok hpost fact_axes
  clear hpost
  have b2' : Below w.heap.size w w2 := below_trans (((Below.refl _ w).alloc (Nat.le_refl _) _).alloc (by simp) _) b2
  clear b2
  go_wp2_with fail
  refine (ints_any a2 _ [4, 2, 3] [4, 2, 3] 3 3 k2 3 _ (by exact r2.alloc _) (by exact row_lit w2 _ _ _ rfl) (by decide) (by decide) rfl rfl).mono ?_
  rintro e w3 ⟨rfl, nd, rfl⟩
  rw [decide_eq_true (rfl : ([4, 2, 3] : List Int) = [4, 2, 3])]
  have b3 : Below w.heap.size w ((w2.alloc (.cells #[.int .i64 4, .int .i64 2, .int .i64 3] 3)).drewN nd) := below_drewN (below_trans b2' ((Below.refl _ w2).alloc (Nat.le_refl _) _)) nd
  generalize (w2.alloc (.cells #[.int .i64 4, .int .i64 2, .int .i64 3] 3)).drewN nd = w3 at *
  go_wp2_with fail
  refine (axes_any a0 a1 s p _ _ c0 c1 w3 (h0.below b3) (h1.below b3) l0 l1 rfl rfl).mono ?_
  intro e w4 hp4
  have b4 : Below w.heap.size w w4 := below_trans b3 hp4.2.2
  cases ht : M.axes s p with
  | error n =>
    obtain ⟨rfl, _⟩ := listPost_error hp4 ht
    clear hp4 ht
    go_wp2_with fail
    go_ret
    exact ⟨rfl, b4⟩
  | ok t =>
    obtain ⟨a4, k4, rfl, r4, _⟩ := listPost_ok hp4 ht
    clear hp4
    obtain ⟨hback, m, hcs, hct⟩ := M.axes_back ht
    obtain ⟨⟨q, hq⟩, hperm, hlt, _⟩ := M.axes_ok ht
    have h6 := (M.count_ok hq).1
    have hlp : p.length < 17592186044416 := by have := hperm.len; omega
    have hlb : (M.backwards p).length ≤ maxLen := by have := (M.back_spec hperm).1.len; unfold maxLen; omega
    have hlt6 : t.length ≤ maxLen := by unfold maxLen; omega
    clear hq hperm hlt h6 ht
    replace hback := Lib.hid hback
    replace hcs := Lib.hid hcs
    replace hct := Lib.hid hct
    have hmm : (m == m) = true := beq_self_eq_true m
    go_wp2_with fail
    refine (backwards_any a1 p _ c1 w4 (h1.below b4) hlp rfl).mono ?_
    rintro e w5 ⟨v5, rfl, o5, b45⟩
    replace r4 := r4.below b45
    have b5 : Below w.heap.size w w5 := below_trans b4 b45
    obtain ⟨a5, k5, rfl, _, _, r5⟩ := o5.view
    clear o5 b45
    go_wp2_with fail
    refine (axes_any a4 a5 t (M.backwards p) _ _ k4 k5 w5 r4 r5 hlt6 hlb rfl rfl).mono ?_
    intro e w6 hp6
    obtain ⟨a6, k6, rfl, r6, b56⟩ := listPost_ok hp6 hback.out
    replace r4 := r4.below b56
    have b6 : Below w.heap.size w w6 := below_trans b5 b56
    clear hp6 b56
    go_wp2_with fail
    refine (count_any a0 s _ c0 w6 (h0.below b6) l0 rfl).mono ?_
    rintro e w' ⟨rfl, rfl⟩
    rw [hcs.out]
    dsimp only [resI]
    go_wp2_with fail
    refine (count_any a4 t _ k4 w6 r4 hlt6 rfl).mono ?_
    rintro e w' ⟨rfl, rfl⟩
    rw [hct.out]
    dsimp only [resI]
    go_wp2_with fail
    refine (ints_any a6 a0 s s _ _ k6 c0 w6 r6 (h0.below b6) l0 l0 rfl rfl).mono ?_
    rintro e w7 ⟨rfl, nd, rfl⟩
    rw [decide_eq_true (rfl : s = s)]
    go_wp2_with fail
    go_ret
    exact ⟨rfl, below_drewN b6 _⟩

end Go.Proofs.Ytldhklbpmfckcaa
