/- The library's slices.Equal on ints. Condition: rows that lie as lists of ints. -/
import Derived.Test.YtfnoalbnkbifmaaBdA
import Derived.Deep.QuietTactic
import Derived.BigQuiet
namespace Go.Proofs.Ytfnoalbnkbifmaa
open Go.RowKit

set_option maxHeartbeats 400000 in
/-- Are two lists the same? (the library) -/
theorem equal_any (a b : Option Addr) (s t : List Int) (m n c d : Nat) (w : World) (hs : Row w a s) (ht : Row w b t) (hm : s.length ≤ maxLen) (hn : t.length ≤ maxLen) (em : m = s.length) (en : n = t.length) :
    Calls Try.prog 45 #[.slice a m c, .slice b n d] w fun e w' => e = .returned (.bool (decide (s = t))) ∧ ∃ n, w' = w.drewN n := by
  subst em
  subst en
  unfold maxLen at hm hn
  by_cases hl : s.length = t.length
  · have hb1 : (((s.length : Nat) : Int) != ((t.length : Nat) : Int)) = false := by rw [bne_eq_false_iff_eq]; omega
    replace hl := Lib.hid hl
    go_enter Try.func45, Try.ntmps45
    go_wp2
    go_loopw [13] (fun i wr => ∃ k : Nat, k ≤ s.length ∧ i = .int .i64 k ∧ s.take k = t.take k ∧ ∃ n, wr = w.drewN n) (fun i _ => s.length - (intOf i).toNat)
    case atStart => exact ⟨0, Nat.zero_le _, rfl, rfl, 0, rfl⟩
    case round =>
      obtain ⟨k, hk, rfl, heq, n, rfl⟩ := hrel
      replace heq := Lib.hid heq
      by_cases hlt : k < s.length
      · have hlt' : k < t.length := by have := hl.out; omega
        obtain ⟨b1, o1, rfl, hc⟩ := hs k hlt
        obtain ⟨b2, o2, rfl, hc2⟩ := ht k hlt'
        go_wp2
        go_quiet (fail)
        go_wp2
        · have hne : s ≠ t := by
            rintro rfl
            exact absurd ‹(s[k] != s[k]) = true› (by simp)
          go_ret
          exact ⟨by rw [decide_eq_false hne]; rfl, _, World.drewN_drewN _ _ _⟩
        · have he : s[k] = t[k] := by simpa using ‹(s[k] != t[k]) = false›
          go_roundw
          case rel =>
            refine ⟨k + 1, by omega, by go_num, ?_, _, rfl⟩
            rw [List.take_succ_eq_append_getElem hlt, List.take_succ_eq_append_getElem hlt', heq.out, he]
          case measure => simp [intOf]; omega
      · have he : s = t := by
          have h1 := heq.out
          have h2 := hl.out
          rwa [List.take_of_length_le (by omega), List.take_of_length_le (by omega)] at h1
        replace he := Lib.hid he
        go_wp2
        go_ret
        exact ⟨by rw [decide_eq_true he.out]; rfl, _, rfl⟩
  · have hb1 : (((s.length : Nat) : Int) != ((t.length : Nat) : Int)) = true := by rw [bne_iff_ne]; omega
    have hne : s ≠ t := fun h => hl (by rw [h])
    go_enter Try.func45, Try.ntmps45
    go_wp2
    go_ret
    exact ⟨by rw [decide_eq_false hne]; rfl, 0, rfl⟩

end Go.Proofs.Ytfnoalbnkbifmaa
