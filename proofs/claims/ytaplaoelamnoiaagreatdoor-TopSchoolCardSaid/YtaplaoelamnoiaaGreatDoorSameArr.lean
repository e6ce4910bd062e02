/- The statements' helper Array: are two arrays the same? Condition: rows that lie as lists of ints. -/
import Derived.Test.YtaplaoelamnoiaaGreatDoorBd02
import Derived.Test.YtaplaoelamnoiaaGreatDoorBd01
namespace Go.Proofs.YtaplaoelamnoiaaGreatDoor
open Go.RowKit

set_option maxHeartbeats 1000000 in
theorem array_any (ch ch' : Bool) (a b a' b' : Option Addr) (s d s' d' : List Int) (m c n z m' c' n' z' : Nat) (w : World) (hs : Row w a s) (hd : Row w b d) (ls : s.length ≤ maxLen) (ld : d.length ≤ maxLen) (em : m = s.length) (en : n = d.length)
    (hs' : Row w a' s') (hd' : Row w b' d') (ls' : s'.length ≤ maxLen) (ld' : d'.length ≤ maxLen) (em' : m' = s'.length) (en' : n' = d'.length) :
    Calls Tryz.prog 17 #[arrV ch a m c b n z, arrV ch' a' m' c' b' n' z'] w fun e w' => e = .returned (.bool (decide ((⟨ch, s, d⟩ : Arr) = ⟨ch', s', d'⟩))) ∧ Below w.heap.size w w' := by
  subst em
  subst en
  subst em'
  subst en'
  have bel0 : Below w.heap.size w ((w.alloc (.cells #[.bool ch, .slice a s.length c, .slice b d.length z] 24)).alloc (.cells #[.bool ch', .slice a' s'.length c', .slice b' d'.length z'] 24)) := push (push (start w) _) _
  rw [arr_eq]
  dsimp only
  by_cases hc : ch = ch'
  · have hcd := Lib.hid (decide_eq_true hc)
    have hbc : (ch == ch') = true := by simpa using hc
    clear hc
    go_enter Tryz.func17, Tryz.ntmps17
    go_wp2_with fail
    refine (ints_any a a' s s' _ _ c c' _ (hs.below bel0) (hs'.below bel0) ls ls' rfl rfl).mono ?_
    rintro e w4 ⟨rfl, n4, rfl⟩
    have b4 := below_drewN bel0 n4
    cases hss : decide (s = s') with
    | true =>
      replace hss := Lib.hid hss
      go_wp2_with fail
      refine (ints_any b b' d d' _ _ z z' _ (hd.below b4) (hd'.below b4) ld ld' rfl rfl).mono ?_
      rintro e w5 ⟨rfl, n5, rfl⟩
      have b5 := below_drewN bel0 (n4 + n5)
      cases hdd : decide (d = d') with
      | true =>
        replace hdd := Lib.hid hdd
        go_wp2
        go_ret
        exact ⟨by rw [hcd.out, hss.out, hdd.out]; rfl, b5⟩
      | false =>
        replace hdd := Lib.hid hdd
        go_wp2
        go_ret
        exact ⟨by rw [hcd.out, hss.out, hdd.out]; rfl, b5⟩
    | false =>
      replace hss := Lib.hid hss
      go_wp2_with fail
      refine (ints_any b b' d d' _ _ z z' _ (hd.below b4) (hd'.below b4) ld ld' rfl rfl).mono ?_
      rintro e w5 ⟨rfl, n5, rfl⟩
      have b5 := below_drewN bel0 (n4 + n5)
      cases hdd : decide (d = d') with
      | true =>
        replace hdd := Lib.hid hdd
        go_wp2
        go_ret
        exact ⟨by rw [hcd.out, hss.out, hdd.out]; rfl, b5⟩
      | false =>
        replace hdd := Lib.hid hdd
        go_wp2
        go_ret
        exact ⟨by rw [hcd.out, hss.out, hdd.out]; rfl, b5⟩
  · have hbc : (ch == ch') = false := by simpa using hc
    have hcd := Lib.hid (decide_eq_false hc)
    clear hc
    go_enter Tryz.func17, Tryz.ntmps17
    go_wp2
    go_ret
    exact ⟨by rw [hcd.out]; rfl, bel0⟩

end Go.Proofs.YtaplaoelamnoiaaGreatDoor
