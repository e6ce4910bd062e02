/- The call prod.Outer of any arrays. Condition: rows that lie as lists of ints of 64 bits. -/
import Derived.Test.YtfnoalbnkbifmaaWkOutA
import Derived.Test.YtfnoalbnkbifmaaWkOutB
import Derived.Test.YtfnoalbnkbifmaaWkOutC
import Derived.Test.YtfnoalbnkbifmaaWkOutD
namespace Go.Proofs.Ytfnoalbnkbifmaa
open Go.RowKit

theorem outerG_any (f : Int) (ch ch' : Bool) (a b a' b' : Option Addr) (s d s' d' : List Int) (m c n z m' c' n' z' : Nat) (w : World) (hs : Row w a s) (hd : Row w b d) (ls : s.length ≤ maxLen) (ld : d.length ≤ maxLen) (hd64 : All64 d) (em : m = s.length) (en : n = d.length)
    (hs' : Row w a' s') (hd' : Row w b' d') (ls' : s'.length ≤ maxLen) (ld' : d'.length ≤ maxLen) (hd64' : All64 d') (em' : m' = s'.length) (en' : n' = d'.length) :
    Calls Try.prog 12 #[.int .i64 f, arrV ch a m c b n z, arrV ch' a' m' c' b' n' z'] w fun e w' => ArrPostG (M.outer f ⟨ch, s, d⟩ ⟨ch', s', d'⟩) w e w' := by
  cases ch <;> cases ch'
  · exact outer_ff f a b a' b' s d s' d' m c n z m' c' n' z' w hs hd ls ld hd64 em en hs' hd' ls' ld' hd64' em' en'
  · exact outer_ft f a b a' b' s d s' d' m c n z m' c' n' z' w hs hd ls ld hd64 em en hs' hd' ls' ld' hd64' em' en'
  · exact outer_tf f a b a' b' s d s' d' m c n z m' c' n' z' w hs hd ls ld hd64 em en hs' hd' ls' ld' hd64' em' en'
  · exact outer_tt f a b a' b' s d s' d' m c n z m' c' n' z' w hs hd ls ld hd64 em en hs' hd' ls' ld' hd64' em' en'

theorem outer_any (f : Int) (ch ch' : Bool) (a b a' b' : Option Addr) (s d s' d' : List Int) (m c n z m' c' n' z' : Nat) (w : World) (hs : Row w a s) (hd : Row w b d) (ls : s.length ≤ maxLen) (ld : d.length ≤ maxLen) (hd64 : All64 d) (em : m = s.length) (en : n = d.length)
    (hs' : Row w a' s') (hd' : Row w b' d') (ls' : s'.length ≤ maxLen) (ld' : d'.length ≤ maxLen) (hd64' : All64 d') (em' : m' = s'.length) (en' : n' = d'.length) :
    Calls Try.prog 12 #[.int .i64 f, arrV ch a m c b n z, arrV ch' a' m' c' b' n' z'] w fun e w' => ArrPostF (M.outer f ⟨ch, s, d⟩ ⟨ch', s', d'⟩) w e w' :=
  (outerG_any f ch ch' a b a' b' s d s' d' m c n z m' c' n' z' w hs hd ls ld hd64 em en hs' hd' ls' ld' hd64' em' en').mono fun _ _ h => h.F

end Go.Proofs.Ytfnoalbnkbifmaa
