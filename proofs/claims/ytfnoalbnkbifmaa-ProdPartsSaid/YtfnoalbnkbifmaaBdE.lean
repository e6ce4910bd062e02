/- Texts that lie in one file: what is plain, rows, boxes, squares, and what is known of a world. No condition. -/
import Derived.Test.YtfnoalbnkbifmaaBdA
import Derived.Deep.QuietTactic
import Derived.BigQuiet
import Derived.Test.YtfnoalbnkbifmaaBdB
/- The helper Ints of the statements: whether two lists are the same. Condition: the slices read as lists of ints. -/
namespace Go.Proofs.Ytfnoalbnkbifmaa
open Go.RowKit

set_option maxHeartbeats 400000 in
/-- Are two lists the same? -/
theorem ints_any (a b : Option Addr) (s t : List Int) (m n c d : Nat) (w : World) (hs : Row w a s) (ht : Row w b t) (hm : s.length ≤ maxLen) (hn : t.length ≤ maxLen) (em : m = s.length) (en : n = t.length) :
    Calls Try.prog 7 #[.slice a m c, .slice b n d] w fun e w' => e = .returned (.bool (decide (s = t))) ∧ ∃ n, w' = w.drewN n := by
  subst em
  subst en
  unfold maxLen at hm hn
  by_cases hl : s.length = t.length
  · have hb1 : (((s.length : Nat) : Int) != ((t.length : Nat) : Int)) = false := by rw [bne_eq_false_iff_eq]; omega
    replace hl := Lib.hid hl
    go_enter Try.func7, Try.ntmps7
    go_wp2
    go_loopw [5] (fun i wr => ∃ k : Nat, k ≤ s.length ∧ i = .int .i64 k ∧ s.take k = t.take k ∧ ∃ n, wr = w.drewN n) (fun i _ => s.length - (intOf i).toNat)
    case atStart => exact ⟨0, Nat.zero_le _, rfl, rfl, 0, rfl⟩
    case round =>
      obtain ⟨k, hk, rfl, heq, n, rfl⟩ := hrel
      replace heq := Lib.hid heq
      by_cases hlt : k < s.length
      · have hlt' : k < t.length := by have := hl.out; omega
        obtain ⟨b1, o1, rfl, hc⟩ := hs k hlt
        obtain ⟨b2, o2, rfl, hc2⟩ := ht k hlt'
        go_wp2
        go_quiet (fail)
        go_wp2
        · have hne : s ≠ t := by
            rintro rfl
            exact absurd ‹(s[k] != s[k]) = true› (by simp)
          go_ret
          exact ⟨by rw [decide_eq_false hne]; rfl, _, World.drewN_drewN _ _ _⟩
        · have he : s[k] = t[k] := by simpa using ‹(s[k] != t[k]) = false›
          go_roundw
          case rel =>
            refine ⟨k + 1, by omega, by go_num, ?_, _, rfl⟩
            rw [List.take_succ_eq_append_getElem hlt, List.take_succ_eq_append_getElem hlt', heq.out, he]
          case measure => simp [intOf]; omega
      · have he : s = t := by
          have h1 := heq.out
          have h2 := hl.out
          rwa [List.take_of_length_le (by omega), List.take_of_length_le (by omega)] at h1
        replace he := Lib.hid he
        go_wp2
        go_ret
        exact ⟨by rw [decide_eq_true he.out]; rfl, _, rfl⟩
  · have hb1 : (((s.length : Nat) : Int) != ((t.length : Nat) : Int)) = true := by rw [bne_iff_ne]; omega
    have hne : s ≠ t := fun h => hl (by rw [h])
    go_enter Try.func7, Try.ntmps7
    go_wp2
    go_ret
    exact ⟨by rw [decide_eq_false hne]; rfl, 0, rfl⟩

end Go.Proofs.Ytfnoalbnkbifmaa

/- The statements' helper Array: are two arrays the same? Condition: rows that lie as lists of ints. -/
namespace Go.Proofs.Ytfnoalbnkbifmaa
open Go.RowKit

set_option maxHeartbeats 1000000 in
theorem array_any (ch ch' : Bool) (a b a' b' : Option Addr) (s d s' d' : List Int) (m c n z m' c' n' z' : Nat) (w : World) (hs : Row w a s) (hd : Row w b d) (ls : s.length ≤ maxLen) (ld : d.length ≤ maxLen) (em : m = s.length) (en : n = d.length)
    (hs' : Row w a' s') (hd' : Row w b' d') (ls' : s'.length ≤ maxLen) (ld' : d'.length ≤ maxLen) (em' : m' = s'.length) (en' : n' = d'.length) :
    Calls Try.prog 11 #[arrV ch a m c b n z, arrV ch' a' m' c' b' n' z'] w fun e w' => e = .returned (.bool (decide ((⟨ch, s, d⟩ : Arr) = ⟨ch', s', d'⟩))) ∧ Below w.heap.size w w' := by
  subst em
  subst en
  subst em'
  subst en'
  have bel0 : Below w.heap.size w ((w.alloc (.cells #[.bool ch, .slice a s.length c, .slice b d.length z] 25)).alloc (.cells #[.bool ch', .slice a' s'.length c', .slice b' d'.length z'] 25)) := push (push (start w) _) _
  rw [arr_eq]
  dsimp only
  by_cases hc : ch = ch'
  · have hcd := Lib.hid (decide_eq_true hc)
    have hbc : (ch == ch') = true := by simpa using hc
    clear hc
    go_enter Try.func11, Try.ntmps11
    go_wp2_with fail
    refine (ints_any a a' s s' _ _ c c' _ (hs.below bel0) (hs'.below bel0) ls ls' rfl rfl).mono ?_
    rintro e w4 ⟨rfl, n4, rfl⟩
    have b4 := below_drewN bel0 n4
    cases hss : decide (s = s') with
    | true =>
      replace hss := Lib.hid hss
      go_wp2_with fail
      refine (ints_any b b' d d' _ _ z z' _ (hd.below b4) (hd'.below b4) ld ld' rfl rfl).mono ?_
      rintro e w5 ⟨rfl, n5, rfl⟩
      have b5 := below_drewN bel0 (n4 + n5)
      cases hdd : decide (d = d') with
      | true =>
        replace hdd := Lib.hid hdd
        go_wp2
        go_ret
        exact ⟨by rw [hcd.out, hss.out, hdd.out]; rfl, b5⟩
      | false =>
        replace hdd := Lib.hid hdd
        go_wp2
        go_ret
        exact ⟨by rw [hcd.out, hss.out, hdd.out]; rfl, b5⟩
    | false =>
      replace hss := Lib.hid hss
      go_wp2_with fail
      refine (ints_any b b' d d' _ _ z z' _ (hd.below b4) (hd'.below b4) ld ld' rfl rfl).mono ?_
      rintro e w5 ⟨rfl, n5, rfl⟩
      have b5 := below_drewN bel0 (n4 + n5)
      cases hdd : decide (d = d') with
      | true =>
        replace hdd := Lib.hid hdd
        go_wp2
        go_ret
        exact ⟨by rw [hcd.out, hss.out, hdd.out]; rfl, b5⟩
      | false =>
        replace hdd := Lib.hid hdd
        go_wp2
        go_ret
        exact ⟨by rw [hcd.out, hss.out, hdd.out]; rfl, b5⟩
  · have hbc : (ch == ch') = false := by simpa using hc
    have hcd := Lib.hid (decide_eq_false hc)
    clear hc
    go_enter Try.func11, Try.ntmps11
    go_wp2
    go_ret
    exact ⟨by rw [hcd.out]; rfl, bel0⟩

end Go.Proofs.Ytfnoalbnkbifmaa
