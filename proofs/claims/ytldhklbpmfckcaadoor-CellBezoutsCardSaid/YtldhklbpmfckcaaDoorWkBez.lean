/- The call cell.Bezout: what it returns is M.bezout, and an error at the least number. Condition: numbers of 64 bits. -/
import Derived.Test.YtldhklbpmfckcaaDoorBezout
import Derived.Deep.QuietTactic
import Derived.BigQuiet
import Derived.Deep.RegionHeld3
import Derived.Deep.RegionLaw
import Derived.Deep.DrawnRows
namespace Go.Proofs.YtldhklbpmfckcaaDoor
open Go.RowKit
attribute [local go_sem ↓] Go.wp_at_zero Go.wp_at_succ

/-- A row of Euclid's, as a value. -/
abbrev rowV (a b c : Int) : Value := .agg #[.int .i64 a, .int .i64 b, .int .i64 c]

set_option maxHeartbeats 1000000 in
theorem less_any (a b c q x y z : Int) (w : World) :
    Calls Tryd.prog 33 #[.agg #[.int .i64 a, .int .i64 b, .int .i64 c], .int .i64 q, .agg #[.int .i64 x, .int .i64 y, .int .i64 z]] w fun e w' =>
      e = .returned (rowV (wrap64 (a - wrap64 (q * x))) (wrap64 (b - wrap64 (q * y))) (wrap64 (c - wrap64 (q * z)))) ∧ Below w.heap.size w w' := by
  go_enter Tryd.func33, Tryd.ntmps33
  go_wp2
  refine wp_loop_rounds 4 ?_
  rw [rounds_succ]
  go_wp2
  go_region
  all_goals go_wp2
  rw [rounds_succ]
  go_wp2
  go_region
  all_goals go_wp2
  rw [rounds_succ]
  go_wp2
  go_region
  all_goals go_wp2
  rw [rounds_succ]
  go_wp2
  refine bodyPost_ret (v := rowV (wrap64 (a - wrap64 (q * x))) (wrap64 (b - wrap64 (q * y))) (wrap64 (c - wrap64 (q * z)))) ?_ rfl ⟨rfl, ?_⟩
  · simp [results, Tryd.results33, go_sem, rowV]
  · exact (((((Below.refl _ w).alloc (Nat.le_refl _) _).alloc (by simp) _).alloc (by simp; omega) _).drew.drew.drew)


/-- Three cells of a block hold a row of Euclid's; it may be written. -/
def RowAt (w : World) (N : Nat) (a b c : Int) : Prop :=
  w.cell? ⟨N, 0, none⟩ = some (.int .i64 a) ∧ w.cell? ⟨N, 1, none⟩ = some (.int .i64 b) ∧ w.cell? ⟨N, 2, none⟩ = some (.int .i64 c) ∧
  w.frozen? ⟨N, 0, none⟩ = false ∧ w.frozen? ⟨N, 1, none⟩ = false ∧ w.frozen? ⟨N, 2, none⟩ = false

/-- How far from 0 the number in a cell is. -/
def leftAt (w : World) (N : Nat) : Nat := match w.cell? ⟨N, 0, none⟩ with | some (.int _ n) => n.natAbs | _ => 0

theorem leftAt_eq {w : World} {N : Nat} {n : Int} (h : w.cell? ⟨N, 0, none⟩ = some (.int .i64 n)) : leftAt w N = n.natAbs := by rw [leftAt, h]

/-- The call with what it leaves of two rows that lie in memory. -/
theorem less_at (w : World) (N : Nat) (a b c q x y z g0 g1 g2 h0 h1 h2 : Int) (hN : N + 1 < w.heap.size)
    (c0 : w.cell? ⟨N, 0, none⟩ = some (.int .i64 g0)) (c1 : w.cell? ⟨N, 1, none⟩ = some (.int .i64 g1)) (c2 : w.cell? ⟨N, 2, none⟩ = some (.int .i64 g2))
    (f0 : w.frozen? ⟨N, 0, none⟩ = false) (f1 : w.frozen? ⟨N, 1, none⟩ = false) (f2 : w.frozen? ⟨N, 2, none⟩ = false)
    (d0 : w.cell? ⟨N + 1, 0, none⟩ = some (.int .i64 h0)) (d1 : w.cell? ⟨N + 1, 1, none⟩ = some (.int .i64 h1)) (d2 : w.cell? ⟨N + 1, 2, none⟩ = some (.int .i64 h2))
    (q0 : w.frozen? ⟨N + 1, 0, none⟩ = false) (q1 : w.frozen? ⟨N + 1, 1, none⟩ = false) (q2 : w.frozen? ⟨N + 1, 2, none⟩ = false) :
    Calls Tryd.prog 33 #[.agg #[.int .i64 a, .int .i64 b, .int .i64 c], .int .i64 q, .agg #[.int .i64 x, .int .i64 y, .int .i64 z]] w fun e w' =>
      e = .returned (.agg #[.int .i64 (wrap64 (a - wrap64 (q * x))), .int .i64 (wrap64 (b - wrap64 (q * y))), .int .i64 (wrap64 (c - wrap64 (q * z)))]) ∧ Below w.heap.size w w' ∧
      w'.cell? ⟨N, 0, none⟩ = some (.int .i64 g0) ∧ w'.cell? ⟨N, 1, none⟩ = some (.int .i64 g1) ∧ w'.cell? ⟨N, 2, none⟩ = some (.int .i64 g2) ∧
      w'.frozen? ⟨N, 0, none⟩ = false ∧ w'.frozen? ⟨N, 1, none⟩ = false ∧ w'.frozen? ⟨N, 2, none⟩ = false ∧
      w'.cell? ⟨N + 1, 0, none⟩ = some (.int .i64 h0) ∧ w'.cell? ⟨N + 1, 1, none⟩ = some (.int .i64 h1) ∧ w'.cell? ⟨N + 1, 2, none⟩ = some (.int .i64 h2) ∧
      w'.frozen? ⟨N + 1, 0, none⟩ = false ∧ w'.frozen? ⟨N + 1, 1, none⟩ = false ∧ w'.frozen? ⟨N + 1, 2, none⟩ = false :=
  (less_any a b c q x y z w).mono fun e w' ⟨he, hb⟩ =>
    ⟨he, hb, (hb.cell (by show N < _; omega)).trans c0, (hb.cell (by show N < _; omega)).trans c1, (hb.cell (by show N < _; omega)).trans c2,
      (hb.frozen (by show N < _; omega)).trans f0, (hb.frozen (by show N < _; omega)).trans f1, (hb.frozen (by show N < _; omega)).trans f2,
      (hb.cell (by show N + 1 < _; omega)).trans d0, (hb.cell (by show N + 1 < _; omega)).trans d1, (hb.cell (by show N + 1 < _; omega)).trans d2,
      (hb.frozen (by show N + 1 < _; omega)).trans q0, (hb.frozen (by show N + 1 < _; omega)).trans q1, (hb.frozen (by show N + 1 < _; omega)).trans q2⟩

/-- Euclid's rows in memory: the two rows, what is left of the way, and that the numbers stay small. -/
def BezAt (a b : Int) (w wr : World) : Prop :=
  ∃ g x y h u v : Int, RowAt wr w.heap.size g x y ∧ RowAt wr (w.heap.size + 1) h u v ∧ Below w.heap.size w wr ∧ w.heap.size + 1 < wr.heap.size ∧
    -9223372036854775808 < g ∧ g ≤ 9223372036854775807 ∧ -9223372036854775808 < h ∧ h ≤ 9223372036854775807 ∧ ∃ f, h.natAbs < f ∧ M.bez (b.natAbs + 1) a 1 0 b 0 1 = M.bez f g x y h u v

theorem cell_same (w : World) (a : Addr) (v : Value) (h : (w.cell? a).isSome = true) : (w.setCell a v).cell? a = some v := by
  obtain ⟨o, ho⟩ := Option.isSome_iff_exists.1 h
  exact World.cell?_setCell_same _ _ _ ho

/-- Three cells of a row are written. -/
theorem rowAt_set {w : World} {N : Nat} {p q r a b c : Int} (h : RowAt w N p q r) : RowAt (((w.setCell ⟨N, 0, none⟩ (.int .i64 a)).setCell ⟨N, 1, none⟩ (.int .i64 b)).setCell ⟨N, 2, none⟩ (.int .i64 c)) N a b c := by
  obtain ⟨c0, c1, c2, f0, f1, f2⟩ := h
  refine ⟨?_, ?_, ?_, ?_, ?_, ?_⟩
  · rw [World.cell?_setCell_other _ _ _ _ (by simp), World.cell?_setCell_other _ _ _ _ (by simp)]
    exact World.cell?_setCell_same _ _ _ c0
  · rw [World.cell?_setCell_other _ _ _ _ (by simp)]
    exact World.cell?_setCell_same _ _ _ ((World.cell?_setCell_other _ _ _ _ (by simp)).trans c1)
  · exact World.cell?_setCell_same _ _ _ ((World.cell?_setCell_other _ _ _ _ (by simp)).trans ((World.cell?_setCell_other _ _ _ _ (by simp)).trans c2))
  · rw [World.frozen?_setCell, World.frozen?_setCell, World.frozen?_setCell]; exact f0
  · rw [World.frozen?_setCell, World.frozen?_setCell, World.frozen?_setCell]; exact f1
  · rw [World.frozen?_setCell, World.frozen?_setCell, World.frozen?_setCell]; exact f2

theorem rowAt_far {w : World} {N K : Nat} {p q r : Int} {x y z : Value} (h : RowAt w N p q r) (hne : K ≠ N) : RowAt (((w.setCell ⟨K, 0, none⟩ x).setCell ⟨K, 1, none⟩ y).setCell ⟨K, 2, none⟩ z) N p q r := by
  obtain ⟨c0, c1, c2, f0, f1, f2⟩ := h
  refine ⟨?_, ?_, ?_, ?_, ?_, ?_⟩
  · rw [World.cell?_setCell_far _ _ _ _ hne, World.cell?_setCell_far _ _ _ _ hne, World.cell?_setCell_far _ _ _ _ hne]; exact c0
  · rw [World.cell?_setCell_far _ _ _ _ hne, World.cell?_setCell_far _ _ _ _ hne, World.cell?_setCell_far _ _ _ _ hne]; exact c1
  · rw [World.cell?_setCell_far _ _ _ _ hne, World.cell?_setCell_far _ _ _ _ hne, World.cell?_setCell_far _ _ _ _ hne]; exact c2
  · rw [World.frozen?_setCell, World.frozen?_setCell, World.frozen?_setCell]; exact f0
  · rw [World.frozen?_setCell, World.frozen?_setCell, World.frozen?_setCell]; exact f1
  · rw [World.frozen?_setCell, World.frozen?_setCell, World.frozen?_setCell]; exact f2

theorem below_set {w w' : World} {N : Nat} {x y z : Value} (h : Below w.heap.size w w') (hN : w.heap.size ≤ N) : Below w.heap.size w (((w'.setCell ⟨N, 0, none⟩ x).setCell ⟨N, 1, none⟩ y).setCell ⟨N, 2, none⟩ z) :=
  ((h.setCell hN _).setCell hN _).setCell hN _

theorem below_drew' {w wr w' : World} (h : Below w.heap.size w wr) (k : Below wr.drew.heap.size wr.drew w') : Below w.heap.size w w' :=
  below_trans h ⟨k.os, k.tape, k.output, k.size, k.block⟩

/-- What the round leaves, whichever of the two stores comes first. -/
theorem bez_rel {a b g x y h u v : Int} {w wr w' W : World} (hh : h ≠ 0) (hbel : Below w.heap.size w wr) (hsz : w.heap.size + 1 < wr.heap.size)
    (hg1 : -9223372036854775808 < g) (hg2 : g ≤ 9223372036854775807) (hh1 : -9223372036854775808 < h) (hh2 : h ≤ 9223372036854775807) {f : Nat} (hf : h.natAbs < f) (he : M.bez (b.natAbs + 1) a 1 0 b 0 1 = M.bez f g x y h u v)
    (hd : wr.cell? ⟨w.heap.size + 1, 0, none⟩ = some (.int .i64 h))
    (hb3 : Below wr.drew.heap.size wr.drew w') (hA : RowAt w' w.heap.size g x y) (hB : RowAt w' (w.heap.size + 1) h u v)
    (hW : W = (((((w'.setCell ⟨w.heap.size, 0, none⟩ (.int .i64 h)).setCell ⟨w.heap.size, 1, none⟩ (.int .i64 u)).setCell ⟨w.heap.size, 2, none⟩ (.int .i64 v)).setCell ⟨w.heap.size + 1, 0, none⟩ (.int .i64 (wrap64 (g - wrap64 (IntKind.i64.wrap (g.tdiv h) * h))))).setCell ⟨w.heap.size + 1, 1, none⟩ (.int .i64 (wrap64 (x - wrap64 (IntKind.i64.wrap (g.tdiv h) * u))))).setCell ⟨w.heap.size + 1, 2, none⟩ (.int .i64 (wrap64 (y - wrap64 (IntKind.i64.wrap (g.tdiv h) * v)))) ∨
      W = (((((w'.setCell ⟨w.heap.size + 1, 0, none⟩ (.int .i64 (wrap64 (g - wrap64 (IntKind.i64.wrap (g.tdiv h) * h))))).setCell ⟨w.heap.size + 1, 1, none⟩ (.int .i64 (wrap64 (x - wrap64 (IntKind.i64.wrap (g.tdiv h) * u))))).setCell ⟨w.heap.size + 1, 2, none⟩ (.int .i64 (wrap64 (y - wrap64 (IntKind.i64.wrap (g.tdiv h) * v))))).setCell ⟨w.heap.size, 0, none⟩ (.int .i64 h)).setCell ⟨w.heap.size, 1, none⟩ (.int .i64 u)).setCell ⟨w.heap.size, 2, none⟩ (.int .i64 v)) :
    BezAt a b w W ∧ leftAt W (w.heap.size + 1) < leftAt wr (w.heap.size + 1) := by
  obtain ⟨s1, s2, s3, f', s4, s5⟩ := bez_step hh hg1 hg2 hf he
  have b3 := below_drew' hbel hb3
  have hz : w.heap.size + 1 < w'.heap.size := Nat.lt_of_lt_of_le hsz hb3.size
  have n1 : w.heap.size ≠ w.heap.size + 1 := by omega
  have n2 : w.heap.size + 1 ≠ w.heap.size := by omega
  have key : RowAt W w.heap.size h u v ∧ RowAt W (w.heap.size + 1) (wrap64 (g - wrap64 (IntKind.i64.wrap (g.tdiv h) * h))) (wrap64 (x - wrap64 (IntKind.i64.wrap (g.tdiv h) * u))) (wrap64 (y - wrap64 (IntKind.i64.wrap (g.tdiv h) * v))) ∧ Below w.heap.size w W ∧ w.heap.size + 1 < W.heap.size := by
    rcases hW with rfl | rfl
    · exact ⟨rowAt_far (rowAt_set hA) n2, rowAt_set (rowAt_far hB n1), below_set (below_set b3 (Nat.le_refl _)) (by omega), by simpa using hz⟩
    · exact ⟨rowAt_set (rowAt_far hA n2), rowAt_far (rowAt_set hB) n1, below_set (below_set b3 (by omega)) (Nat.le_refl _), by simpa using hz⟩
  refine ⟨⟨_, _, _, _, _, _, key.1, key.2.1, key.2.2.1, key.2.2.2, hh1, hh2, s1, s2, f', s4, s5⟩, ?_⟩
  rw [leftAt_eq key.2.1.1, leftAt_eq hd]
  exact s3

def resZ (r : Int × Int × Int) : Value := .tuple #[.int .i64 r.1, .int .i64 r.2.1, .int .i64 r.2.2, .nilIface]

theorem bezout_least (a b : Int) (w : World) (h : a = -9223372036854775808 ∨ b = -9223372036854775808) :
    Calls Tryd.prog 15 #[.int .i64 a, .int .i64 b] w fun e w' => e = .returned (.tuple #[.int .i64 0, .int .i64 0, .int .i64 0, .iface 23 (.int .i64 6)]) ∧ w = w' := by
  by_cases h1 : a = -9223372036854775808
  · subst h1
    clear h
    go_enter Tryd.func15, Tryd.ntmps15
    go_wp2
    refine bodyPost_ret (v := .tuple #[.int .i64 0, .int .i64 0, .int .i64 0, .iface 23 (.int .i64 6)]) (by simp [results, Tryd.results15, go_sem]) rfl ⟨rfl, rfl⟩
  · obtain rfl := h.resolve_left h1
    have e1 : (a == -9223372036854775808) = false := by simpa using h1
    clear h h1
    go_enter Tryd.func15, Tryd.ntmps15
    go_wp2
    refine bodyPost_ret (v := .tuple #[.int .i64 0, .int .i64 0, .int .i64 0, .iface 23 (.int .i64 6)]) (by simp [results, Tryd.results15, go_sem]) rfl ⟨rfl, rfl⟩

set_option maxHeartbeats 16000000 in
theorem bezout_any (a b : Int) (w : World) (ha : I64 a) (hb : I64 b) (h1 : a ≠ -9223372036854775808) (h2 : b ≠ -9223372036854775808) :
    Calls Tryd.prog 15 #[.int .i64 a, .int .i64 b] w fun e w' => e = .returned (resZ (M.bezout a b)) ∧ Below w.heap.size w w' := by
  have e1 : (a == -9223372036854775808) = false := by simpa using h1
  have e2 : (b == -9223372036854775808) = false := by simpa using h2
  go_enter Tryd.func15, Tryd.ntmps15
  go_wp2_with fail
  go_loopw [22] (fun _ wr => BezAt a b w wr) (fun _ wr => leftAt wr (w.heap.size + 1))
  case atStart =>
    unfold I64 at ha hb
    exact ⟨a, 1, 0, b, 0, 1, ⟨by simp, by simp, by simp, by simp, by simp, by simp⟩, ⟨by simp, by simp, by simp, by simp, by simp, by simp⟩, ((Below.refl _ w).alloc (Nat.le_refl _) _).alloc (by simp) _, by simp, by omega, by omega, by omega, by omega, b.natAbs + 1, by omega, rfl⟩
  case round =>
    clear e1 e2 h1 h2 ha hb
    obtain ⟨g, x, y, h, u, v, hA, hB, hbel, hsz, i1, i2, i3, i4, f, hf, he⟩ := hrel
    obtain ⟨c0, c1, c2, f0, f1, f2⟩ := id hA
    obtain ⟨d0, d1, d2, q0, q1, q2⟩ := id hB
    by_cases hz : h = 0
    · subst hz
      rw [bez_end hf] at he
      clear hf i3 i4
      by_cases hneg : g < 0
      · have hres := Lib.hid (bezout_neg he hneg)
        replace he := Lib.hid he
        go_wp2_with fail
        refine (less_any 0 0 0 1 g x y wr).mono ?_
        rintro e w' ⟨rfl, hb3⟩
        dsimp only [rowV]
        have hA' : RowAt w' w.heap.size g x y := ⟨(hb3.cell (by show w.heap.size < _; omega)).trans c0, (hb3.cell (by show w.heap.size < _; omega)).trans c1, (hb3.cell (by show w.heap.size < _; omega)).trans c2,
          (hb3.frozen (by show w.heap.size < _; omega)).trans f0, (hb3.frozen (by show w.heap.size < _; omega)).trans f1, (hb3.frozen (by show w.heap.size < _; omega)).trans f2⟩
        have b3 := below_trans hbel hb3
        clear c0 c1 c2 f0 f1 f2 d0 d1 d2 q0 q1 q2 hA hB hneg i1 i2 hbel hb3 hsz
        obtain ⟨c0, c1, c2, f0, f1, f2⟩ := id hA'
        obtain ⟨l0, l1, l2, l3, l4, l5⟩ := rowAt_set (a := wrap64 (-wrap64 g)) (b := wrap64 (-wrap64 x)) (c := wrap64 (-wrap64 y)) hA'
        have b4 := below_set (x := .int .i64 (wrap64 (-wrap64 g))) (y := .int .i64 (wrap64 (-wrap64 x))) (z := .int .i64 (wrap64 (-wrap64 y))) b3 (Nat.le_refl _)
        go_wp2_with fail
        generalize ((w'.setCell ⟨w.heap.size, 0, none⟩ (.int .i64 (wrap64 (-wrap64 g)))).setCell ⟨w.heap.size, 1, none⟩ (.int .i64 (wrap64 (-wrap64 x)))).setCell ⟨w.heap.size, 2, none⟩ (.int .i64 (wrap64 (-wrap64 y))) = w9 at *
        clear c0 c1 c2 f0 f1 f2 b3 hA'
        go_quiet (fail)
        go_wp2
        refine bodyPost_ret (v := resZ (wrap64 (-wrap64 g), wrap64 (-wrap64 x), wrap64 (-wrap64 y))) (by simp [results, Tryd.results15, go_sem, resZ]) rfl ⟨by rw [hres.out], below_drewN b4 _⟩
      · have hres := Lib.hid (bezout_pos he hneg)
        replace he := Lib.hid he
        go_wp2_with fail
        go_quiet (fail)
        go_wp2
        refine bodyPost_ret (v := resZ (g, x, y)) (by simp [results, Tryd.results15, go_sem, resZ]) rfl ⟨by rw [hres.out], below_drewN hbel _⟩
    · have hz0 : (h != 0) = true := by simpa using hz
      replace he := Lib.hid he
      go_wp2_with fail
      go_region_law ((go_simp; go_at_call 33; refine (less_at wr.drew w.heap.size _ _ _ _ _ _ _ g x y h u v hsz c0 c1 c2 f0 f1 f2 d0 d1 d2 q0 q1 q2).mono ?_; rintro e w' ⟨rfl, hb3, l0, l1, l2, k0, k1, k2, l3, l4, l5, k3, k4, k5⟩))
      all_goals (go_wp2_with fail)
      all_goals (exact bez_rel hz hbel hsz i1 i2 i3 i4 hf he.out d0 hb3 ⟨l0, l1, l2, k0, k1, k2⟩ ⟨l3, l4, l5, k3, k4, k5⟩ (by first | exact .inl rfl | exact .inr rfl))

end Go.Proofs.YtldhklbpmfckcaaDoor
