/- The library's slices.Equal and slices.Clone on ints, and arr's cycled. Condition: rows shorter than 2^44. -/
import Derived.Test.YtbhbmkkpbceebaaDoorMake
import Derived.Test.YtbhbmkkpbceebaaDoorArr
import Derived.Lib.LazyBuf
import Derived.Deep.QuietTactic
import Derived.BigQuiet
namespace Go.Proofs.YtbhbmkkpbceebaaDoor
open Go.RowKit

set_option maxHeartbeats 400000 in
/-- Are two lists the same? (the library) -/
theorem equal_any (a b : Option Addr) (s t : List Int) (m n c d : Nat) (w : World) (hs : Row w a s) (ht : Row w b t) (hm : s.length ≤ maxLen) (hn : t.length ≤ maxLen) (em : m = s.length) (en : n = t.length) :
    Calls Tryd.prog 35 #[.slice a m c, .slice b n d] w fun e w' => e = .returned (.bool (decide (s = t))) ∧ ∃ n, w' = w.drewN n := by
  subst em
  subst en
  unfold maxLen at hm hn
  by_cases hl : s.length = t.length
  · have hb1 : (((s.length : Nat) : Int) != ((t.length : Nat) : Int)) = false := by rw [bne_eq_false_iff_eq]; omega
    replace hl := Lib.hid hl
    go_enter Tryd.func35, Tryd.ntmps35
    go_wp2
    go_loopw [13] (fun i wr => ∃ k : Nat, k ≤ s.length ∧ i = .int .i64 k ∧ s.take k = t.take k ∧ ∃ n, wr = w.drewN n) (fun i _ => s.length - (intOf i).toNat)
    case atStart => exact ⟨0, Nat.zero_le _, rfl, rfl, 0, rfl⟩
    case round =>
      obtain ⟨k, hk, rfl, heq, n, rfl⟩ := hrel
      replace heq := Lib.hid heq
      by_cases hlt : k < s.length
      · have hlt' : k < t.length := by have := hl.out; omega
        obtain ⟨b1, o1, rfl, hc⟩ := hs k hlt
        obtain ⟨b2, o2, rfl, hc2⟩ := ht k hlt'
        go_wp2
        go_quiet (fail)
        go_wp2
        · have hne : s ≠ t := by
            rintro rfl
            exact absurd ‹(s[k] != s[k]) = true› (by simp)
          go_ret
          exact ⟨by rw [decide_eq_false hne]; rfl, _, World.drewN_drewN _ _ _⟩
        · have he : s[k] = t[k] := by simpa using ‹(s[k] != t[k]) = false›
          go_roundw
          case rel =>
            refine ⟨k + 1, by omega, by go_num, ?_, _, rfl⟩
            rw [List.take_succ_eq_append_getElem hlt, List.take_succ_eq_append_getElem hlt', heq.out, he]
          case measure => simp [intOf]; omega
      · have he : s = t := by
          have h1 := heq.out
          have h2 := hl.out
          rwa [List.take_of_length_le (by omega), List.take_of_length_le (by omega)] at h1
        replace he := Lib.hid he
        go_wp2
        go_ret
        exact ⟨by rw [decide_eq_true he.out]; rfl, _, rfl⟩
  · have hb1 : (((s.length : Nat) : Int) != ((t.length : Nat) : Int)) = true := by rw [bne_iff_ne]; omega
    have hne : s ≠ t := fun h => hl (by rw [h])
    go_enter Tryd.func35, Tryd.ntmps35
    go_wp2
    go_ret
    exact ⟨by rw [decide_eq_false hne]; rfl, 0, rfl⟩

theorem eql_nil (a : Option Addr) (l c : Nat) (w : World) : (binOp .eql 22 (.slice a l c) (.slice none 0 0)).run Tryd.prog w = .ok (.bool a.isNone) w := run_eql_slice_nil w _ _ a l c Tryd.underlying22

theorem own_empty (w : World) : Own (w.alloc (.cells #[] 3)) w.heap.size (.slice (some ⟨w.heap.size, 0, none⟩) 0 0) [] :=
  ⟨rfl, .inr ⟨w.heap.size, 0, #[], rfl, Nat.le_refl _, heap_alloc_new _ _, Nat.le_refl _, Nat.zero_le _, rfl, rfl⟩⟩

set_option maxHeartbeats 400000 in
theorem clone_any (a : Option Addr) (s : List Int) (n c : Nat) (w : World) (hs : Row w a s) (hm : s.length < 17592186044416) (en : n = s.length) :
    Calls Tryd.prog 34 #[.slice a n c] w fun e w' => ∃ v, e = .returned v ∧ Own w' w.heap.size v s ∧ Below w.heap.size w w' := by
  subst en
  cases a with
  | none =>
    have h0 : s = [] := by
      cases s with
      | nil => rfl
      | cons x r => obtain ⟨b, o, h, _⟩ := hs 0 (by simp); cases h
    subst h0
    have hnil := eql_nil none 0 c
    go_enter Tryd.func34, Tryd.ntmps34
    go_wp2
    go_ret
    exact ⟨_, rfl, Own.nil _ _, Below.refl _ _⟩
  | some b =>
    have hnil := eql_nil (some b) s.length c
    go_enter Tryd.func34, Tryd.ntmps34
    go_wp2_with (at_builtin; refine app_row rfl (.tmp 5) (.tmp 6) rfl w.heap.size _ [] s b c rfl (own_empty w) rfl (hs.alloc _) (by simpa using hm) (by simp) ?_; intro v' w' ho' hb' hl')
    go_ret
    exact ⟨_, rfl, ho', ((Below.refl _ w).alloc (Nat.le_refl _) _).trans hb'⟩

namespace M
/-- A list again and again; of nothing it is z. -/
def cycle (d : List Int) (n : Nat) (z : Int) : List Int := (List.range n).map fun i => if d.length = 0 then z else d.getD (i % d.length) 0
end M

theorem cycle_succ (d : List Int) (n : Nat) (z : Int) : M.cycle d (n + 1) z = M.cycle d n z ++ [if d.length = 0 then z else d.getD (n % d.length) 0] := by
  simp [M.cycle, List.range_succ]
theorem cycle_length (d : List Int) (n : Nat) (z : Int) : (M.cycle d n z).length = n := by simp [M.cycle]

set_option maxHeartbeats 400000 in
theorem cycled_any (a : Option Addr) (d : List Int) (m c n : Nat) (z : Int) (w : World) (hd : Row w a d) (hm : d.length ≤ maxLen) (hn : n < 17592186044416) (em : m = d.length) :
    Calls Tryd.prog 37 #[.slice a m c, .int .i64 n, .int .i64 z] w fun e w' => ∃ v, e = .returned v ∧ Own w' w.heap.size v (M.cycle d n z) ∧ Below w.heap.size w w' := by
  subst em
  unfold maxLen at hm
  have hmk := run_make_room0 n hn
  go_enter Tryd.func37, Tryd.ntmps37
  go_wp2
  go_loopw [7, 12] (fun v i wr => ∃ k : Nat, k ≤ n ∧ i = .int .i64 k ∧ Own wr w.heap.size v (M.cycle d k z) ∧ Below w.heap.size w wr) (fun _ i _ => n - (intOf i).toNat)
  case atStart => exact ⟨0, Nat.zero_le _, rfl, own_room w n _ (Nat.le_refl _) (by unfold maxLen; omega), (Below.refl _ w).alloc (Nat.le_refl _) _⟩
  case round =>
    obtain ⟨k, hk, rfl, hown, hbel⟩ := hrel
    have hB := hbel.size
    have hlen : (M.cycle d k z).length < 17592186044416 := by rw [cycle_length]; omega
    by_cases hlt : k < n
    · have hcs := cycle_succ d k z
      by_cases h0 : d.length = 0
      · rw [if_pos h0] at hcs
        replace hcs := Lib.hid hcs
        have h0' : (((d.length : Nat) : Int) == 0) = true := by rw [beq_iff_eq]; omega
        replace h0 := Lib.hid h0
        go_wp2_with (at_builtin; refine app_int rfl (.tmp 18) (.tmp 20) rfl w.heap.size _ (M.cycle d k z) z rfl hown rfl hlen hB ?_; intro v' w' ho' hb' hl')
        go_roundw
        case rel => exact ⟨k + 1, by omega, by go_num, by rw [hcs.out]; exact ho', hbel.trans hb'⟩
        case measure => simp [intOf]; omega
      · rw [if_neg h0] at hcs
        have h0' : (((d.length : Nat) : Int) == 0) = false := by rw [beq_eq_false_iff_ne]; omega
        have hmod : k % d.length < d.length := Nat.mod_lt _ (by omega)
        obtain ⟨b1, o1, rfl, hc⟩ := hd.below hbel (k % d.length) hmod
        have hrem : ((k : Int).tmod ((d.length : Nat) : Int)) = ((k % d.length : Nat) : Int) := by
          rw [Int.tmod_eq_emod_of_nonneg (by omega)]; rfl
        replace hcs := Lib.hid hcs
        replace h0 := Lib.hid h0
        generalize k % d.length = j at *
        have hcs' : M.cycle d (k + 1) z = M.cycle d k z ++ [d[j]] := by rw [hcs.out]; simp [hmod]
        clear hcs
        replace hcs := Lib.hid hcs'
        clear hcs'
        go_wp2_with (at_builtin; refine app_int rfl (.tmp 22) (.tmp 30) rfl w.heap.size _ (M.cycle d k z) d[j] rfl hown rfl hlen hB ?_; intro v' w' ho' hb' hl')
        go_roundw
        case rel => exact ⟨k + 1, by omega, by go_num, by rw [hcs.out]; exact ho', hbel.trans hb'⟩
        case measure => simp [intOf]; omega
    · obtain rfl : k = n := by omega
      go_wp2
      go_ret
      exact ⟨_, rfl, hown, hbel⟩

end Go.Proofs.YtbhbmkkpbceebaaDoor
