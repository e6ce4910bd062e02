/- The library's slices.Equal and slices.Clone on ints, and arr's cycled. -/
import Derived.Test.YtiebknfmmanbiaaWkEqual
import Derived.Test.YtiebknfmmanbiaaWkClone
import Derived.Test.YtiebknfmmanbiaaWkCycled
import Derived.Test.YtiebknfmmanbiaaBdA
namespace Go.Proofs.Ytiebknfmmanbiaa
open Go.RowKit

theorem wkList_here : True := trivial

end Go.Proofs.Ytiebknfmmanbiaa
