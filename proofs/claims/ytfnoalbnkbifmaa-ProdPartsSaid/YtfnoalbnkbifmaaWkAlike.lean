/- The statements' helper alike, without errors. Condition: rows that lie as lists of ints. -/
import Derived.Test.YtfnoalbnkbifmaaBdB
import Derived.Test.YtfnoalbnkbifmaaBdE
namespace Go.Proofs.Ytfnoalbnkbifmaa
open Go.RowKit

set_option maxHeartbeats 1000000 in
theorem alike_any (ch ch' : Bool) (a b a' b' : Option Addr) (s d s' d' : List Int) (m c n z m' c' n' z' : Nat) (w : World) (hs : Row w a s) (hd : Row w b d) (ls : s.length ≤ maxLen) (ld : d.length ≤ maxLen) (em : m = s.length) (en : n = d.length)
    (hs' : Row w a' s') (hd' : Row w b' d') (ls' : s'.length ≤ maxLen) (ld' : d'.length ≤ maxLen) (em' : m' = s'.length) (en' : n' = d'.length) :
    Calls Try.prog 14 #[arrV ch a m c b n z, .nilIface, arrV ch' a' m' c' b' n' z', .nilIface] w fun e w' => e = .returned (.bool (decide ((⟨ch, s, d⟩ : Arr) = ⟨ch', s', d'⟩))) ∧ Below w.heap.size w w' := by
  subst em
  subst en
  subst em'
  subst en'
  have hb0 := push (push (start w) (.cells #[.bool ch, .slice a s.length c, .slice b d.length z] 25)) (.cells #[.bool ch', .slice a' s'.length c', .slice b' d'.length z'] 25)
  go_enter Try.func14, Try.ntmps14
  go_wp2_with fail
  refine (array_any ch ch' a b a' b' s d s' d' _ c _ z _ c' _ z' _ (hs.below hb0) (hd.below hb0) ls ld rfl rfl (hs'.below hb0) (hd'.below hb0) ls' ld' rfl rfl).mono ?_
  rintro e w1 ⟨rfl, hb⟩
  cases hdd : decide ((⟨ch, s, d⟩ : Arr) = ⟨ch', s', d'⟩)
  all_goals
    replace hdd := Lib.hid hdd
    go_wp2
    go_ret
    exact ⟨by rw [hdd.out]; rfl, below_trans hb0 hb⟩

end Go.Proofs.Ytfnoalbnkbifmaa
