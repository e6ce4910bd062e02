/- The calls of ravelinsame.Permutation where it holds; plain facts of an order. Condition: a list of ints, each once, from 0 on. -/
import Derived.Test.YtiebknfmmanbiaaDoorWkOrder
import Derived.Deep.QuietTactic
import Derived.BigQuiet
namespace Go.Proofs.YtiebknfmmanbiaaDoor
open Go.RowKit

set_option maxRecDepth 20000 in
set_option maxHeartbeats 8000000 in
theorem permutation_any (a : Option Addr) (s : List Int) (m c : Nat) (w : World) (hs : Row w a s) (hm : s.length ≤ maxLen) (em : m = s.length)
    (h1 : ∀ i, i < s.length → 0 ≤ s.getD i 0 ∧ s.getD i 0 < (s.length : Int)) (h2 : ∀ i j, j < i → i < s.length → s.getD j 0 ≠ s.getD i 0) :
    Calls Tryd.prog 49 #[.slice a m c] w fun e w' => e = .returned (.bool true) ∧ ∃ n, w' = w.drewN n := by
  subst em
  unfold maxLen at hm
  have h1' := Lib.hid h1
  have h2' := Lib.hid h2
  have hs' := Lib.hid hs
  clear h1 h2 hs
  generalize hL : s.length = L at *
  replace hL := Lib.hid hL
  go_enter Tryd.func49, Tryd.ntmps49
  go_wp2
  go_loopw [3] (fun v wr => ∃ i nd : Nat, i ≤ L ∧ v = .int .i64 i ∧ wr = w.drewN nd) (fun v _ => L - (intOf v).toNat)
  case atStart => exact ⟨0, 0, Nat.zero_le _, rfl, rfl⟩
  case round =>
    obtain ⟨i, nd, hi, rfl, rfl⟩ := hrel
    by_cases hlt : i < L
    · obtain ⟨b1, o1, rfl, ci⟩ := hs'.out i (by rw [hL.out]; exact hlt)
      obtain ⟨x0, x1⟩ := h1'.out i hlt
      have hne := h2'.out i
      obtain ⟨x, hx⟩ : ∃ x, x = s.getD i 0 := ⟨_, rfl⟩
      rw [← hx] at ci x0 x1 hne
      have t1 : decide (x < 0) = false := decide_eq_false (by omega)
      have t2 : decide (x ≥ (L : Int)) = false := decide_eq_false (by omega)
      replace hx := Lib.hid hx
      replace hne := Lib.hid hne
      go_wp2
      clear t1 t2
      go_loopw [4] (fun v wr => ∃ j nd : Nat, j ≤ i ∧ v = .int .i64 j ∧ wr = w.drewN nd) (fun v _ => i - (intOf v).toNat)
      case atStart => exact ⟨0, nd, Nat.zero_le _, rfl, rfl⟩
      case round =>
        obtain ⟨j, nd2, hj, rfl, rfl⟩ := hrel
        by_cases hlj : j < i
        · obtain ⟨b2, o2, ee, cj⟩ := hs'.out j (by rw [hL.out]; omega)
          cases ee
          have hn := hne.out j hlj hlt
          generalize s.getD j 0 = y at *
          have t3 : (y == x) = false := by rw [beq_eq_false_iff_ne]; exact hn
          have jL : j < L := by omega
          replace hn := Lib.hid hn
          go_wp2
          go_quiet (fail)
          go_wp2
          go_roundw
          case rel => exact ⟨j + 1, _, hlj, num1 j, by first | rfl | exact World.drewN_drewN _ _ _⟩
          case measure => exact meas1 hlj
        · go_wp2
          go_roundw
          case rel => exact ⟨i + 1, _, hlt, num1 i, by first | rfl | exact World.drewN_drewN _ _ _⟩
          case measure => exact meas1 hlt
    · go_wp2
      go_ret
      exact ⟨rfl, _, rfl⟩

theorem ordL_get {n k i : Nat} {F : Nat → Nat → Bool} (h : i < (Re.ordK n F k).length) : (M.ordL n F k).getD i 0 = (((Re.ordK n F k).getD i 0 : Nat) : Int) := by
  unfold M.ordL
  rw [List.getD_eq_getElem?_getD, List.getD_eq_getElem?_getD]
  simp [h]
theorem ord_once {n : Nat} {F : Nat → Nat → Bool} (h : Re.Full n F n) {i j : Nat} (hji : j < i) (hi : i < n) : (Re.ordK n F n).getD j 0 ≠ (Re.ordK n F n).getD i 0 := by
  rw [h.get hi, h.get (by omega)]
  intro e
  have h1 := h.mem (a := j) (by omega)
  rw [e] at h1
  exact (h.free hi).1 (Re.mem_mono hji h1)
theorem ord_in {n : Nat} {F : Nat → Nat → Bool} (h : Re.Full n F n) {i : Nat} (hi : i < n) : (Re.ordK n F n).getD i 0 < n := by
  rw [h.get hi]; exact h i hi
theorem full_or {n : Nat} {F : Nat → Nat → Bool} : ∀ k, Re.Full n F k ∨ ∃ q, q < k ∧ Re.Full n F q ∧ Re.next n F (Re.ordK n F q) = n := by
  intro k
  induction k with
  | zero => exact .inl fun m hm => absurd hm (Nat.not_lt_zero _)
  | succ k ih =>
    rcases ih with h | ⟨q, h1, h2⟩
    · rcases Re.next_spec n F (Re.ordK n F k) with ⟨e, -⟩ | ⟨e, -, -⟩
      · exact .inr ⟨k, Nat.lt_succ_self k, h, e⟩
      · exact .inl (full_next h e rfl)
    · exact .inr ⟨q, by omega, h2⟩
/-- Does one of the first m come at last to itself? -/
def circ (n : Nat) (F : Nat → Nat → Bool) (m : Nat) : Bool := (List.range m).any fun i => Re.clo n F i i
theorem circ_succ (n : Nat) (F : Nat → Nat → Bool) (m : Nat) : circ n F (m + 1) = (circ n F m || Re.clo n F m m) := by
  unfold circ; rw [List.range_succ, List.any_append]; simp
theorem circ_full {n : Nat} {F : Nat → Nat → Bool} (h : Re.Full n F n) : circ n F n = false := by
  unfold circ
  rw [List.any_eq_false]
  intro i hi
  rw [h.irrefl (List.mem_range.1 hi)]; simp
theorem circ_not {n : Nat} {F : Nat → Nat → Bool} (h : (Re.ordK n F n).length ≠ n) : circ n F n = true := by
  rcases full_or (n := n) (F := F) n with h1 | ⟨q, h1, h2, h3⟩
  · exact absurd h1.len h
  · obtain ⟨i, hi, hc⟩ := Re.circle h2 h1 h3
    unfold circ
    rw [List.any_eq_true]
    exact ⟨i, List.mem_range.2 hi, hc⟩
end Go.Proofs.YtiebknfmmanbiaaDoor
