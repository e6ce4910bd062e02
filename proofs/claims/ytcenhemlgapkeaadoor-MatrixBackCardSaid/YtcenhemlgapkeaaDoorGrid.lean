/- The statements' helpers Grid and square: is an array a matrix with short axes? Condition: rows that lie as lists of ints. -/
import Derived.Test.YtcenhemlgapkeaaDoorBdW
import Derived.Test.YtcenhemlgapkeaaDoorBdB
import Derived.Test.YtcenhemlgapkeaaDoorBdQ
import Derived.Deep.QuietTactic
import Derived.BigQuiet
namespace Go.Proofs.YtcenhemlgapkeaaDoor
open Go.RowKit

namespace M
/-- Is it an array of numbers with two axes, each not longer than so much? -/
def grid (x : Arr) (far : Int) : Bool :=
  !x.ch && (x.s.length == 2 && (decide (0 ≤ x.s.getD 0 0 ∧ x.s.getD 0 0 ≤ far) && (decide (0 ≤ x.s.getD 1 0 ∧ x.s.getD 1 0 ≤ far) && decide ((x.d.length : Int) = wrap64 (x.s.getD 0 0 * x.s.getD 1 0)))))
/-- Is it a matrix of at most six rows? -/
def isSq (x : Arr) : Bool := grid x 6 && (x.s.getD 0 0 == x.s.getD 1 0)
end M

theorem grid_parts {x : Arr} {far : Int} (h : M.grid x far = true) (hf : far ≤ 65536) : ∃ m n : Nat, (m : Int) ≤ far ∧ (n : Int) ≤ far ∧ x = ⟨false, [(m : Int), (n : Int)], x.d⟩ ∧ x.d.length = m * n := by
  obtain ⟨ch, s, d⟩ := x
  unfold M.grid at h
  simp only [Bool.and_eq_true, Bool.not_eq_true', beq_iff_eq, decide_eq_true_eq] at h
  obtain ⟨h1, h2, ⟨h3, h4⟩, ⟨h5, h6⟩, h7⟩ := h
  subst h1
  obtain ⟨u, v, rfl⟩ : ∃ u v, s = [u, v] := by
    match s, h2 with
    | [u, v], _ => exact ⟨u, v, rfl⟩
  simp only [List.getD_cons_zero, List.getD_cons_succ] at h3 h4 h5 h6 h7
  obtain ⟨m, rfl⟩ : ∃ m : Nat, u = m := ⟨u.toNat, by omega⟩
  obtain ⟨n, rfl⟩ : ∃ n : Nat, v = n := ⟨v.toNat, by omega⟩
  refine ⟨m, n, h4, h6, rfl, ?_⟩
  have hm : m * n ≤ 65536 * 65536 := Nat.mul_le_mul (by omega) (by omega)
  have e : (m : Int) * (n : Int) = ((m * n : Nat) : Int) := by simp
  rw [e, IntWalk.wrap64_in _ (by generalize m * n = k at hm ⊢; omega)] at h7
  exact_mod_cast h7

theorem isSq_parts {x : Arr} (h : M.isSq x = true) : ∃ n : Nat, n ≤ 6 ∧ x = ⟨false, [(n : Int), (n : Int)], x.d⟩ ∧ x.d.length = n * n := by
  unfold M.isSq at h
  rw [Bool.and_eq_true, beq_iff_eq] at h
  obtain ⟨m, n, hm, hn, hx, hd⟩ := grid_parts h.1 (by decide)
  have h2 := h.2
  rw [hx] at h2
  simp only [List.getD_cons_zero, List.getD_cons_succ] at h2
  obtain rfl : m = n := by exact_mod_cast h2
  exact ⟨m, by omega, hx, hd⟩

set_option maxHeartbeats 4000000 in
theorem grid_any (far : Int) (ch : Bool) (a b : Option Addr) (s d : List Int) (m c n z : Nat) (w : World) (hs : Row w a s) (ls : s.length ≤ maxLen) (ld : d.length ≤ maxLen) (em : m = s.length) (en : n = d.length) :
    Calls Tryd.prog 78 #[arrV ch a m c b n z, .int .i64 far] w fun e w' => e = .returned (.bool (M.grid ⟨ch, s, d⟩ far)) ∧ Below w.heap.size w w' := by
  subst em
  subst en
  have E := ((Env.start w).addRow hs).box ch a s.length c b d.length z
  obtain ⟨⟨u0, u1, u2⟩, -, -, -⟩ := E.getBox 0 rfl
  unfold maxLen at ls ld
  cases ch with
  | true =>
    have hr := Lib.hid (show M.grid ⟨true, s, d⟩ far = false from rfl)
    go_enter Tryd.func78, Tryd.ntmps78
    go_wp2
    go_ret
    exact ⟨by rw [hr.out]; rfl, E.bel⟩
  | false =>
    by_cases hl : s.length = 2
    case neg =>
      have hb2 : (((s.length : Nat) : Int) != 2) = true := by rw [bne_iff_ne]; omega
      have hr := Lib.hid (show M.grid ⟨false, s, d⟩ far = false by
        unfold M.grid
        simp only
        rw [show (s.length == 2) = false by rw [beq_eq_false_iff_ne]; exact hl]; rfl)
      replace hl := Lib.hid hl
      go_enter Tryd.func78, Tryd.ntmps78
      go_wp2
      go_ret
      exact ⟨by rw [hr.out]; rfl, E.bel⟩
    obtain ⟨x, y, rfl⟩ : ∃ x y, s = [x, y] := by
      match s, hl with
      | [x, y], _ => exact ⟨x, y, rfl⟩
    have hS := E.getRow 1 rfl
    obtain ⟨bs, os, rfl, hc0⟩ := hS 0 (by simp)
    obtain ⟨bs', os', e, hc1⟩ := hS 1 (by simp)
    cases e
    simp only [List.getD_cons_zero, List.getD_cons_succ, Nat.add_zero, List.length_cons, List.length_nil, Nat.zero_add, Nat.reduceAdd] at hc0 hc1 u1 ⊢
    clear hl
    have hr0 : M.grid ⟨false, [x, y], d⟩ far = (decide (0 ≤ x ∧ x ≤ far) && (decide (0 ≤ y ∧ y ≤ far) && decide ((d.length : Int) = wrap64 (x * y)))) := rfl
    have hbel := E.bel
    cases d1 : decide (x < 0) with
    | true =>
      have h1 := of_decide_eq_true d1
      have hr := Lib.hid (show M.grid ⟨false, [x, y], d⟩ far = false by rw [hr0, show decide (0 ≤ x ∧ x ≤ far) = false from decide_eq_false (by omega)]; rfl)
      clear h1 hr0 E hS
      go_enter Tryd.func78, Tryd.ntmps78
      go_wp2
      go_ret
      exact ⟨by rw [hr.out]; rfl, hbel⟩
    | false =>
    cases d2 : decide (far < x) with
    | true =>
      have h1 := of_decide_eq_true d2
      have hr := Lib.hid (show M.grid ⟨false, [x, y], d⟩ far = false by rw [hr0, show decide (0 ≤ x ∧ x ≤ far) = false from decide_eq_false (by omega)]; rfl)
      clear h1 hr0 E hS
      go_enter Tryd.func78, Tryd.ntmps78
      go_wp2
      go_ret
      exact ⟨by rw [hr.out]; rfl, hbel⟩
    | false =>
    cases d3 : decide (y < 0) with
    | true =>
      have h1 := of_decide_eq_true d3
      have hr := Lib.hid (show M.grid ⟨false, [x, y], d⟩ far = false by rw [hr0, show decide (0 ≤ y ∧ y ≤ far) = false from decide_eq_false (by omega), Bool.false_and, Bool.and_false])
      clear h1 hr0 E hS
      go_enter Tryd.func78, Tryd.ntmps78
      go_wp2
      go_ret
      exact ⟨by rw [hr.out]; rfl, hbel⟩
    | false =>
    cases d4 : decide (far < y) with
    | true =>
      have h1 := of_decide_eq_true d4
      have hr := Lib.hid (show M.grid ⟨false, [x, y], d⟩ far = false by rw [hr0, show decide (0 ≤ y ∧ y ≤ far) = false from decide_eq_false (by omega), Bool.false_and, Bool.and_false])
      clear h1 hr0 E hS
      go_enter Tryd.func78, Tryd.ntmps78
      go_wp2
      go_ret
      exact ⟨by rw [hr.out]; rfl, hbel⟩
    | false =>
    have k1 := of_decide_eq_false d1
    have k2 := of_decide_eq_false d2
    have k3 := of_decide_eq_false d3
    have k4 := of_decide_eq_false d4
    have hr := Lib.hid (show M.grid ⟨false, [x, y], d⟩ far = ((d.length : Int) == wrap64 (x * y)) by
      rw [hr0, show decide (0 ≤ x ∧ x ≤ far) = true from decide_eq_true (by omega), show decide (0 ≤ y ∧ y ≤ far) = true from decide_eq_true (by omega)]
      rw [Bool.true_and, Bool.true_and, Bool.eq_iff_iff, decide_eq_true_eq, beq_iff_eq])
    clear k1 k2 k3 k4 hr0 E hS
    go_enter Tryd.func78, Tryd.ntmps78
    go_wp2
    go_quiet (fail)
    go_wp2
    go_ret
    exact ⟨by rw [hr.out]; rfl, below_drewN hbel _⟩

set_option maxHeartbeats 4000000 in
theorem isSq_any (ch : Bool) (a b : Option Addr) (s d : List Int) (m c n z : Nat) (w : World) (hs : Row w a s) (ls : s.length ≤ maxLen) (ld : d.length ≤ maxLen) (em : m = s.length) (en : n = d.length) :
    Calls Tryd.prog 38 #[arrV ch a m c b n z] w fun e w' => e = .returned (.bool (M.isSq ⟨ch, s, d⟩)) ∧ Below w.heap.size w w' := by
  subst em
  subst en
  have E := ((Env.start w).addRow hs).box ch a s.length c b d.length z
  have hgrid := fun w h => grid_any 6 ch a b s d _ c _ z w h ls ld rfl rfl
  replace hgrid := Lib.hid hgrid
  cases hg : M.grid ⟨ch, s, d⟩ 6 with
  | false =>
    have hr := Lib.hid (show M.isSq ⟨ch, s, d⟩ = false by unfold M.isSq; rw [hg]; rfl)
    replace hg := Lib.hid hg
    go_enter Tryd.func38, Tryd.ntmps38
    go_wp2_with fail
    refine (hgrid.out _ (E.getRow 1 rfl)).mono ?_
    rintro e w1 ⟨rfl, hb⟩
    rw [hg.out]
    replace E := E.step hb
    clear hb
    go_wp2
    go_quiet (fail)
    go_wp2
    go_ret
    exact ⟨by rw [hr.out]; rfl, below_drewN E.bel _⟩
  | true =>
    obtain ⟨p, q, hp, hq, hx, hd⟩ := grid_parts hg (by decide)
    have hr := Lib.hid (show M.isSq ⟨ch, s, d⟩ = ((p : Int) == (q : Int)) by unfold M.isSq; rw [hg, hx]; rfl)
    have hx' := hx
    rw [Arr.mk.injEq] at hx'
    obtain ⟨rfl, rfl, -⟩ := hx'
    clear hx
    replace hg := Lib.hid hg
    replace hd := Lib.hid hd
    go_enter Tryd.func38, Tryd.ntmps38
    go_wp2_with fail
    refine (hgrid.out _ (E.getRow 1 rfl)).mono ?_
    rintro e w1 ⟨rfl, hb⟩
    rw [hg.out]
    replace E := E.step hb
    clear hb
    obtain ⟨⟨u0, u1, u2⟩, -, -, -⟩ := E.getBox 0 rfl
    have hS := E.getRow 1 rfl
    obtain ⟨bs, os, rfl, hc0⟩ := hS 0 (by simp)
    obtain ⟨bs', os', e, hc1⟩ := hS 1 (by simp)
    cases e
    simp only [List.getD_cons_zero, List.getD_cons_succ, Nat.add_zero, List.length_cons, List.length_nil, Nat.zero_add, Nat.reduceAdd] at hc0 hc1 u1 ⊢
    have hbel := E.bel
    clear E hS
    go_wp2
    go_quiet (fail)
    go_wp2
    go_ret
    exact ⟨by rw [hr.out]; rfl, below_drewN hbel _⟩

end Go.Proofs.YtcenhemlgapkeaaDoor
