/- The call arr.Match. Condition: rows that lie as lists of ints. -/
import Derived.Test.YtiebknfmmanbiaaBdA
import Derived.Test.YtiebknfmmanbiaaWkArr
import Derived.Test.YtiebknfmmanbiaaWkEqual
namespace Go.Proofs.Ytiebknfmmanbiaa
open Go.RowKit

set_option maxHeartbeats 1000000 in
theorem match_any (ch ch' : Bool) (a b a' b' : Option Addr) (s d s' d' : List Int) (m c n z m' c' n' z' : Nat) (w : World) (hs : Row w a s) (hd : Row w b d) (ls : s.length ≤ maxLen) (ld : d.length ≤ maxLen) (em : m = s.length) (en : n = d.length)
    (hs' : Row w a' s') (hd' : Row w b' d') (ls' : s'.length ≤ maxLen) (ld' : d'.length ≤ maxLen) (em' : m' = s'.length) (en' : n' = d'.length) :
    Calls Try.prog 37 #[arrV ch a m c b n z, arrV ch' a' m' c' b' n' z'] w fun e w' => e = .returned (resB (M.same ⟨ch, s, d⟩ ⟨ch', s', d'⟩)) ∧ Below w.heap.size w w' := by
  subst em
  subst en
  subst em'
  subst en'
  have bel0 : Below w.heap.size w ((w.alloc (.cells #[.bool ch, .slice a s.length c, .slice b d.length z] 24)).alloc (.cells #[.bool ch', .slice a' s'.length c', .slice b' d'.length z'] 24)) := ((Below.refl _ w).alloc (Nat.le_refl _) _).alloc (by simp) _
  go_enter Try.func37, Try.ntmps37
  go_wp2_with fail
  refine (check_any ch a b s d _ c _ z _ (hs.below bel0) (hd.below bel0) ls ld rfl rfl).mono ?_
  rintro e w2 ⟨rfl, b02⟩
  have c2 := held3 (N := w.heap.size) (x := .bool ch) (y := .slice a s.length c) (z := .slice b d.length z) b02 ⟨by simp, by simp, by simp⟩
  have z2 := held3 (N := w.heap.size + 1) (x := .bool ch') (y := .slice a' s'.length c') (z := .slice b' d'.length z') b02 ⟨by simp, by simp, by simp⟩
  have b2 : Below w.heap.size w w2 := below_trans bel0 b02
  clear b02 bel0
  by_cases hf : M.flaw ch s d = 0
  · rw [hf, errV_zero]
    replace hf := Lib.hid hf
    obtain ⟨x0, x1, x2⟩ := id c2
    obtain ⟨y0, y1, y2⟩ := id z2
    go_wp2_with fail
    refine (check_any ch' a' b' s' d' _ c' _ z' _ (hs'.below b2) (hd'.below b2) ls' ld' rfl rfl).mono ?_
    rintro e w3 ⟨rfl, b23⟩
    clear x0 x1 x2 y0 y1 y2
    obtain ⟨x0, x1, x2⟩ := held3 b23 c2
    obtain ⟨y0, y1, y2⟩ := held3 b23 z2
    clear c2 z2
    have b3 := below_trans b2 b23
    clear b23
    by_cases hf' : M.flaw ch' s' d' = 0
    · rw [hf', errV_zero]
      replace hf' := Lib.hid hf'
      have hr := Lib.hid (show M.same ⟨ch, s, d⟩ ⟨ch', s', d'⟩ = .ok (decide (ch = ch') && (decide (s = s') && decide (d = d'))) by
        unfold M.same; rw [if_pos hf.out, if_pos hf'.out, arr_eq])
      by_cases hc : ch = ch'
      · rw [decide_eq_true hc] at hr
        have hbc : (ch == ch') = true := by simpa using hc
        have hbc2 : decide (ch = ch') = true := by simpa using hc
        replace hc := Lib.hid hc
        go_wp2_with fail
        refine (equal_any a a' s s' _ _ c c' w3 (hs.below b3) (hs'.below b3) ls ls' rfl rfl).mono ?_
        rintro e w4 ⟨rfl, n4, rfl⟩
        have b4 := below_drewN b3 n4
        by_cases hss : s = s'
        · rw [decide_eq_true hss] at hr ⊢
          replace hss := Lib.hid hss
          go_wp2_with fail
          refine (equal_any b b' d d' _ _ z z' _ (hd.below b4) (hd'.below b4) ld ld' rfl rfl).mono ?_
          rintro e w5 ⟨rfl, n5, rfl⟩
          have b5 := below_drewN b3 (n4 + n5)
          cases hdd : decide (d = d') with
          | true =>
            rw [hdd] at hr
            replace hdd := Lib.hid hdd
            go_wp2
            go_ret2
            exact ⟨by rw [hr.out]; rfl, b5⟩
          | false =>
            rw [hdd] at hr
            replace hdd := Lib.hid hdd
            go_wp2
            go_ret2
            exact ⟨by rw [hr.out]; rfl, b5⟩
        · rw [decide_eq_false hss] at hr ⊢
          replace hss := Lib.hid hss
          go_wp2_with fail
          go_ret2
          exact ⟨by rw [hr.out]; rfl, b4⟩
      · rw [decide_eq_false hc] at hr
        have hbc : (ch == ch') = false := by simpa using hc
        have hbc2 : decide (ch = ch') = false := by simpa using hc
        replace hc := Lib.hid hc
        go_wp2
        go_ret2
        exact ⟨by rw [hr.out]; rfl, b3⟩
    · have hr := Lib.hid (show M.same ⟨ch, s, d⟩ ⟨ch', s', d'⟩ = .error (M.flaw ch' s' d') by unfold M.same; rw [if_pos hf.out]; exact if_neg hf')
      rw [errV_ne hf']
      replace hf' := Lib.hid hf'
      go_wp2
      go_ret2
      exact ⟨by rw [hr.out]; rfl, b3⟩
  · have hr := Lib.hid (show M.same ⟨ch, s, d⟩ ⟨ch', s', d'⟩ = .error (M.flaw ch s d) from if_neg hf)
    rw [errV_ne hf]
    replace hf := Lib.hid hf
    clear c2 z2
    go_wp2
    go_ret2
    exact ⟨by rw [hr.out]; rfl, b2⟩

end Go.Proofs.Ytiebknfmmanbiaa
