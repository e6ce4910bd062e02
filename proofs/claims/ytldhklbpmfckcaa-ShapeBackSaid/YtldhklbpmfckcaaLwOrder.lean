/- The walk of the law ShapeOrder: it returns true whatever the input, and writes nothing that was there. -/
import Derived.Test.YtldhklbpmfckcaaPlainAt
import Derived.Test.YtldhklbpmfckcaaWkAxes
import Derived.Deep.QuietTactic
import Derived.BigQuiet
namespace Go.Proofs.Ytldhklbpmfckcaa
open Go.RowKit

theorem fact_at : M.atp [2, 3] 4 = .ok [1, 1] :=
  M.atp_mk (s := [2, 3]) (t := [1, 1]) (q := 6) (M.count_mk (s := [2, 3]) (by decide) (by decide) (by decide)) ⟨by decide, by decide, by decide, by decide, trivial⟩

/-- The call whose answer is known, and what follows may lean on. -/
theorem atPost_ok {s c : List Int} {p : Int} {w w' : World} {e : Ending} (h : AtPost s p w e w') (hr : M.atp s p = .ok c) :
    ∃ a k, e = .returned (.tuple #[.slice a c.length k, .nilIface]) ∧ Row w' a c ∧ Below w.heap.size w w' := by
  obtain ⟨v, he, ho⟩ := h.2.1 c hr
  obtain ⟨a, k, rfl, _, _, hrow⟩ := ho.view
  exact ⟨a, k, he, hrow, h.2.2⟩

theorem atPost_error {s : List Int} {p n : Int} {w w' : World} {e : Ending} (h : AtPost s p w e w') (hr : M.atp s p = .error n) :
    e = .returned (.tuple #[.slice none 0 0, .iface 27 (.int .i64 n)]) ∧ Below w.heap.size w w' := ⟨h.1 n hr, h.2.2⟩

set_option maxHeartbeats 2000000 in
theorem shapeOrder_walk (a0 : Option Addr) (s : List Int) (c0 : Nat) (p q : Int) (w : World) (h0 : Row w a0 s) (l0 : s.length ≤ maxLen) (_ : All64 s) (_ : I64 p) (_ : I64 q) :
    Calls Try.prog 7 #[.slice a0 s.length c0, .int .i64 p, .int .i64 q] w fun e w' => e = .returned (.bool true) ∧ Below w.heap.size w w' := by
  go_enter Try.func7, Try.ntmps7
  go_wp2_with fail
  refine (at_any _ [2, 3] 2 2 4 _ (by exact row_lit w _ _ _ rfl) (by decide) rfl).mono ?_
  intro e w2 hpost
  obtain ⟨a2, k2, rfl, r2, b2⟩ := atPost_ok hpost fact_at
  clear hpost
  have b2' : Below w.heap.size w w2 := below_trans ((Below.refl _ w).alloc (Nat.le_refl _) _) b2
  clear b2
  obtain ⟨f1, o1, rfl, hc1⟩ := r2 0 (by decide)
  obtain ⟨f2, o2, he2, hc2⟩ := r2 1 (by decide)
  simp only [Option.some.injEq, Addr.mk.injEq, and_true] at he2
  obtain ⟨rfl, rfl⟩ := he2
  simp only [List.getD_cons_zero, List.getD_cons_succ, Nat.add_zero] at hc1 hc2
  clear r2
  simp only [List.length_cons, List.length_nil, Nat.zero_add, Nat.reduceAdd]
  go_wp2_with fail
  refine (at_any a0 s _ c0 p _ (h0.below b2') l0 rfl).mono ?_
  intro e w3 hp3
  have b3 : Below w.heap.size w w3 := below_trans b2' hp3.2.2
  cases hx : M.atp s p with
  | error n =>
    obtain ⟨rfl, _⟩ := atPost_error hp3 hx
    clear hp3 hx
    go_wp2_with fail
    refine (at_any a0 s _ c0 q _ (h0.below b3) l0 rfl).mono ?_
    intro e w4 hp4
    have b4 : Below w.heap.size w w4 := below_trans b3 hp4.2.2
    cases hy : M.atp s q with
    | error m =>
      obtain ⟨rfl, _⟩ := atPost_error hp4 hy
      clear hp4 hy
      go_wp2_with fail
      go_ret
      exact ⟨rfl, b4⟩
    | ok y =>
      obtain ⟨a4, k4, rfl, _, _⟩ := atPost_ok hp4 hy
      clear hp4 hy
      go_wp2_with fail
      go_ret
      exact ⟨rfl, b4⟩
  | ok x =>
    obtain ⟨a3, k3, rfl, r3, _⟩ := atPost_ok hp3 hx
    clear hp3
    replace hx := Lib.hid hx
    go_wp2_with fail
    refine (at_any a0 s _ c0 q _ (h0.below b3) l0 rfl).mono ?_
    intro e w4 hp4
    have b4 : Below w.heap.size w w4 := below_trans b3 hp4.2.2
    cases hy : M.atp s q with
    | error m =>
      obtain ⟨rfl, _⟩ := atPost_error hp4 hy
      clear hp4 hy
      go_wp2_with fail
      go_ret
      exact ⟨rfl, b4⟩
    | ok y =>
      obtain ⟨a4, k4, rfl, r4, b34⟩ := atPost_ok hp4 hy
      clear hp4
      replace r3 := r3.below b34
      obtain ⟨hix, hpx⟩ := M.atp_in hx.out
      obtain ⟨hiy, hpy⟩ := M.atp_in hy
      have hlx := hix.length
      have hly := hiy.length
      have hxy : x.length = y.length := by omega
      have hl6 : x.length ≤ maxLen := by omega
      have key : ∀ k, k < x.length → x.take k = y.take k → x.getD k 0 ≠ y.getD k 0 → (decide (p < q) == decide (x.getD k 0 < y.getD k 0)) = true := by
        intro k hk he hne
        rw [beq_iff_eq, decide_eq_decide]
        rw [← hpx, ← hpy]
        constructor
        · intro h
          rcases Int.lt_trichotomy (x.getD k 0) (y.getD k 0) with h1 | h1 | h1
          · exact h1
          · exact absurd h1 hne
          · have := M.placeN_lt hiy hix (k := k) (by omega) he.symm h1; omega
        · exact M.placeN_lt hix hiy (by omega) he
      have same : x = y → (p == q) = true := by rintro rfl; rw [beq_iff_eq, ← hpx, ← hpy]
      replace key := Lib.hid key
      replace same := Lib.hid same
      replace hxy := Lib.hid hxy
      have hne : (((x.length : Nat) : Int) != ((y.length : Nat) : Int)) = false := by rw [bne_eq_false_iff_eq]; have := hxy.out; omega
      unfold maxLen at hl6
      clear hx hy hix hpx hiy hpy hlx hly
      go_wp2_with fail
      go_loopw [13] (fun i wr => ∃ k : Nat, k ≤ x.length ∧ i = .int .i64 k ∧ x.take k = y.take k ∧ Row wr a3 x ∧ Row wr a4 y ∧ Below w.heap.size w wr) (fun i _ => x.length - (intOf i).toNat)
      case atStart => exact ⟨0, Nat.zero_le _, rfl, rfl, r3, r4, b4⟩
      case round =>
        clear b4 r3 r4
        obtain ⟨k, hk, rfl, heq, r3, r4, b4⟩ := hrel
        replace heq := Lib.hid heq
        by_cases hlt : k < x.length
        · have hlt' : k < y.length := by have := hxy.out; omega
          have rr3 := Lib.hid r3
          have rr4 := Lib.hid r4
          obtain ⟨g1, u1, rfl, hd1⟩ := r3 k hlt
          obtain ⟨g2, u2, rfl, hd2⟩ := r4 k hlt'
          have e1 : x.getD k 0 = x[k] := by simp [hlt]
          have e2 : y.getD k 0 = y[k] := by simp [hlt']
          by_cases hdiff : x[k] = y[k]
          · have hb : (x[k] != y[k]) = false := by rw [bne_eq_false_iff_eq]; exact hdiff
            replace hdiff := Lib.hid hdiff
            clear r3 r4
            go_wp2_with fail
            go_quiet (fail)
            go_wp2_with fail
            go_roundw
            case rel =>
              refine ⟨k + 1, by omega, by go_num, ?_, rr3.out, rr4.out, below_drewN b4 _⟩
              rw [List.take_succ_eq_append_getElem hlt, List.take_succ_eq_append_getElem hlt', heq.out, hdiff.out]
            case measure => simp [intOf]; omega
          · have hb : (x[k] != y[k]) = true := by rw [bne_iff_ne]; exact hdiff
            have hfin := key.out k hlt heq.out (by rw [e1, e2]; exact hdiff)
            rw [e1, e2] at hfin
            clear r3 r4
            go_wp2_with fail
            go_quiet (fail)
            go_wp2_with fail
            go_quiet (fail)
            go_wp2_with fail
            go_ret
            exact ⟨rfl, below_drewN (below_drewN b4 _) _⟩
        · have he : x = y := by
            have h1 := heq.out
            have h2 := hxy.out
            rwa [List.take_of_length_le (by omega), List.take_of_length_le (by omega)] at h1
          have hfin := same.out he
          replace he := Lib.hid he
          go_wp2_with fail
          go_ret
          exact ⟨rfl, b4⟩

end Go.Proofs.Ytldhklbpmfckcaa
