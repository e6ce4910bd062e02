/- The call prod.Inner of any arrays. Condition: rows that lie as lists of ints of 64 bits, within their capacities. -/
import Derived.Test.YtfnoalbnkbifmaaWkInnA
import Derived.Test.YtfnoalbnkbifmaaWkInnB
import Derived.Test.YtfnoalbnkbifmaaWkInnC
import Derived.Test.YtfnoalbnkbifmaaWkInnD
import Derived.Test.YtfnoalbnkbifmaaWkInnE
namespace Go.Proofs.Ytfnoalbnkbifmaa
open Go.RowKit

theorem inner_any (f g : Int) (ch ch' : Bool) (a b a' b' : Option Addr) (s d s' d' : List Int) (m c n z m' c' n' z' : Nat) (w : World) (hs : Row w a s) (hd : Row w b d) (ls : s.length ≤ maxLen) (ld : d.length ≤ maxLen) (hd64 : All64 d) (hcs : s.length ≤ c) (em : m = s.length) (en : n = d.length)
    (hs' : Row w a' s') (hd' : Row w b' d') (ls' : s'.length ≤ maxLen) (ld' : d'.length ≤ maxLen) (hd64' : All64 d') (hcs' : s'.length ≤ c') (em' : m' = s'.length) (en' : n' = d'.length) :
    Calls Try.prog 5 #[.int .i64 f, .int .i64 g, arrV ch a m c b n z, arrV ch' a' m' c' b' n' z'] w fun e w' => ArrPostF (M.inner f g ⟨ch, s, d⟩ ⟨ch', s', d'⟩) w e w' := by
  cases ch <;> cases ch'
  · exact inner_ff f g false false rfl rfl a b a' b' s d s' d' m c n z m' c' n' z' w hs hd ls ld hd64 hcs em en hs' hd' ls' ld' hd64' hcs' em' en'
  all_goals cases hcm : M.cmp g
  · exact inner_dft f g hcm false true rfl rfl a b a' b' s d s' d' m c n z m' c' n' z' w hs hd ls ld hd64 hcs em en hs' hd' ls' ld' hd64' hcs' em' en'
  · exact inner_ft f g hcm false true rfl rfl a b a' b' s d s' d' m c n z m' c' n' z' w hs hd ls ld hd64 hcs em en hs' hd' ls' ld' hd64' hcs' em' en'
  · exact inner_dtf f g hcm true false rfl rfl a b a' b' s d s' d' m c n z m' c' n' z' w hs hd ls ld hd64 hcs em en hs' hd' ls' ld' hd64' hcs' em' en'
  · exact inner_tf f g hcm true false rfl rfl a b a' b' s d s' d' m c n z m' c' n' z' w hs hd ls ld hd64 hcs em en hs' hd' ls' ld' hd64' hcs' em' en'
  · exact inner_dtt f g hcm true true rfl rfl a b a' b' s d s' d' m c n z m' c' n' z' w hs hd ls ld hd64 hcs em en hs' hd' ls' ld' hd64' hcs' em' en'
  · exact inner_tt f g hcm true true rfl rfl a b a' b' s d s' d' m c n z m' c' n' z' w hs hd ls ld hd64 hcs em en hs' hd' ls' ld' hd64' hcs' em' en'

end Go.Proofs.Ytfnoalbnkbifmaa
