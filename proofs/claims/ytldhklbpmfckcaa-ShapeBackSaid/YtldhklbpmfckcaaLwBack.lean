/- The walk of the law ShapeBack: it returns true whatever the input, and writes nothing that was there. -/
import Derived.Test.YtldhklbpmfckcaaLwOrder
import Derived.Test.YtldhklbpmfckcaaWkPlace
import Derived.Test.YtldhklbpmfckcaaSame
namespace Go.Proofs.Ytldhklbpmfckcaa
open Go.RowKit

theorem fact_back : M.place [2, 3] [1, 2] = .ok 5 := M.place_mk (n := 6) (M.count_mk (s := [2, 3]) (by decide) (by decide) (by decide)) ⟨by decide, by decide, by decide, by decide, trivial⟩

theorem below_lits (w : World) (o o' : Obj) : Below w.heap.size w ((w.alloc o).alloc o') := ((Below.refl _ w).alloc (Nat.le_refl _) _).alloc (by simp) _

set_option maxHeartbeats 2000000 in
theorem shapeBack_walk (a0 : Option Addr) (s : List Int) (c0 : Nat) (a1 : Option Addr) (t : List Int) (c1 : Nat) (p : Int) (w : World) (h0 : Row w a0 s) (l0 : s.length ≤ maxLen) (_ : All64 s)
    (h1 : Row w a1 t) (l1 : t.length ≤ maxLen) (_ : All64 t) (_ : I64 p) :
    Calls Try.prog 8 #[.slice a0 s.length c0, .slice a1 t.length c1, .int .i64 p] w fun e w' => e = .returned (.bool true) ∧ Below w.heap.size w w' := by
  -- the second half: from Place(s, at) on
  go_enter Try.func8, Try.ntmps8
  go_wp2_with fail
  refine (place_any _ _ [2, 3] [1, 2] 2 2 2 2 _ (by exact (row_lit w _ _ _ rfl).alloc _) (by exact row_lit1 w _ _ _ _ rfl) (by decide) (by decide) rfl rfl).mono ?_
  rintro e w' ⟨rfl, rfl⟩
  rw [fact_back]
  dsimp only [resI]
  have b2 := below_lits w (.cells #[.int .i64 2, .int .i64 3] 3) (.cells #[.int .i64 1, .int .i64 2] 3)
  generalize (w.alloc (.cells #[.int .i64 2, .int .i64 3] 3)).alloc (.cells #[.int .i64 1, .int .i64 2] 3) = w2 at *
  go_wp2_with fail
  refine (at_any a0 s _ c0 p _ (h0.below b2) l0 rfl).mono ?_
  intro e w3 hp3
  have b3 : Below w.heap.size w w3 := below_trans b2 hp3.2.2
  cases hx : M.atp s p with
  | error n =>
    obtain ⟨rfl, _⟩ := atPost_error hp3 hx
    clear hp3 hx
    go_wp2_with fail
    refine (place_any a0 a1 s t _ _ c0 c1 w3 (h0.below b3) (h1.below b3) l0 l1 rfl rfl).mono ?_
    rintro e w' ⟨rfl, rfl⟩
    cases hq : M.place s t with
    | error m =>
      clear hq
      dsimp only [resI]
      go_wp2_with fail
      go_ret
      exact ⟨rfl, b3⟩
    | ok q =>
      obtain ⟨hat, all, hcn, hq0, hqa⟩ := M.atp_place hq
      clear hq
      dsimp only [resI]
      go_wp2_with fail
      refine (at_any a0 s _ c0 q _ (h0.below b3) l0 rfl).mono ?_
      intro e w4 hp4
      obtain ⟨a4, k4, rfl, r4, b34⟩ := atPost_ok hp4 hat
      have b4 : Below w.heap.size w w4 := below_trans b3 b34
      clear hp4 hat b34
      replace hcn := Lib.hid hcn
      go_wp2_with fail
      refine (ints_any _ _ t t _ _ _ _ _ r4 (h1.below b4) l1 l1 rfl rfl).mono ?_
      rintro e w5 ⟨rfl, nd, rfl⟩
      rw [decide_eq_true (rfl : t = t)]
      have b5 : Below w.heap.size w (w4.drewN nd) := below_drewN b4 nd
      go_wp2_with fail
      refine (count_any a0 s _ c0 _ (h0.below b5) l0 rfl).mono ?_
      rintro e w' ⟨rfl, rfl⟩
      rw [hcn.out]
      dsimp only [resI]
      go_wp2_with fail
      go_ret
      exact ⟨rfl, b5⟩
  | ok x =>
    obtain ⟨a3, k3, rfl, r3, _⟩ := atPost_ok hp3 hx
    clear hp3
    have hpl := M.place_atp hx
    obtain ⟨hix, _⟩ := M.atp_in hx
    have hlx := hix.length
    have hl6 : x.length ≤ maxLen := by omega
    have hin : ∀ k, k < s.length → 0 ≤ x.getD k 0 ∧ x.getD k 0 < s.getD k 0 := fun k hk => hix.get hk
    replace hix := Lib.hid hix
    replace hlx := Lib.hid hlx
    replace hpl := Lib.hid hpl
    clear hx
    have z1 : (p != p) = false := by simp
    have z2 : (((x.length : Nat) : Int) != ((s.length : Nat) : Int)) = false := by rw [bne_eq_false_iff_eq]; have := hlx.out; omega
    go_wp2_with fail
    refine (place_any a0 a3 s x _ _ c0 k3 w3 (h0.below b3) r3 l0 hl6 rfl rfl).mono ?_
    rintro e w' ⟨rfl, rfl⟩
    rw [hpl.out]
    dsimp only [resI]
    have l0' := l0
    unfold maxLen at l0'
    go_wp2_with fail
    go_loopw [13] (fun i wr => ∃ k : Nat, k ≤ s.length ∧ i = .int .i64 k ∧ Row wr a3 x ∧ Below w.heap.size w wr) (fun i _ => s.length - (intOf i).toNat)
    case atStart => exact ⟨0, Nat.zero_le _, rfl, r3, b3⟩
    case round =>
      clear b3 r3
      obtain ⟨k, hk, rfl, r3, b3⟩ := hrel
      by_cases hlt : k < s.length
      · have hlt' : k < x.length := by have := hlx.out; omega
        have rr := Lib.hid r3
        obtain ⟨g1, u1, rfl, hd1⟩ := r3 k hlt'
        obtain ⟨g2, u2, rfl, hd2⟩ := h0.below b3 k hlt
        have hg := hin k hlt
        have e1 : x.getD k 0 = x[k] := by simp [hlt']
        have e2 : s.getD k 0 = s[k] := by simp [hlt]
        rw [e1, e2] at hg
        obtain ⟨hg1, hg2⟩ := hg
        clear hin r3
        have hgd : decide (x[k] < 0) = false := by rw [decide_eq_false_iff_not]; omega
        go_wp2_with fail
        go_quiet (fail)
        go_wp2_with fail
        go_roundw
        case rel => exact ⟨k + 1, by omega, by go_num, rr.out, below_drewN b3 _⟩
        case measure => simp [intOf]; omega
      · clear hin
        go_wp2_with fail
        refine (place_any a0 a1 s t _ _ c0 c1 wr (h0.below b3) (h1.below b3) l0 l1 rfl rfl).mono ?_
        rintro e w' ⟨rfl, rfl⟩
        cases hq : M.place s t with
        | error m =>
          clear hq
          dsimp only [resI]
          go_wp2_with fail
          go_ret
          exact ⟨rfl, b3⟩
        | ok q =>
          obtain ⟨hat, all, hcn, hq0, hqa⟩ := M.atp_place hq
          clear hq
          dsimp only [resI]
          go_wp2_with fail
          refine (at_any a0 s _ c0 q _ (h0.below b3) l0 rfl).mono ?_
          intro e w4 hp4
          obtain ⟨a4, k4, rfl, r4, b34⟩ := atPost_ok hp4 hat
          have b4 : Below w.heap.size w w4 := below_trans b3 b34
          clear hp4 hat b34
          replace hcn := Lib.hid hcn
          go_wp2_with fail
          refine (ints_any _ _ t t _ _ _ _ _ r4 (h1.below b4) l1 l1 rfl rfl).mono ?_
          rintro e w5 ⟨rfl, nd, rfl⟩
          rw [decide_eq_true (rfl : t = t)]
          have b5 : Below w.heap.size w (w4.drewN nd) := below_drewN b4 nd
          go_wp2_with fail
          refine (count_any a0 s _ c0 _ (h0.below b5) l0 rfl).mono ?_
          rintro e w' ⟨rfl, rfl⟩
          rw [hcn.out]
          dsimp only [resI]
          go_wp2_with fail
          go_ret
          exact ⟨rfl, b5⟩

end Go.Proofs.Ytldhklbpmfckcaa
