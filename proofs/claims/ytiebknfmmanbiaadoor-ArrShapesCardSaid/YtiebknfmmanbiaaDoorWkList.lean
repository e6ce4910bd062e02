/- The library's slices.Equal and slices.Clone on ints, and arr's cycled. -/
import Derived.Test.YtiebknfmmanbiaaDoorWkEqual
import Derived.Test.YtiebknfmmanbiaaDoorWkClone
import Derived.Test.YtiebknfmmanbiaaDoorWkCycled
import Derived.Test.YtiebknfmmanbiaaDoorBdA
namespace Go.Proofs.YtiebknfmmanbiaaDoor
open Go.RowKit

theorem wkList_here : True := trivial

end Go.Proofs.YtiebknfmmanbiaaDoor
