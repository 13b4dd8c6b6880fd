/- The library's own contracts, laid at this program. -/
import Derived.Test.YteolgjmeigifbaaProg
import Derived.Ground.NamesProg
import Derived.Shelf.Lay
import Derived.Shelf.Sort.Plain
import Derived.KernelRfl
namespace Go.Proofs
open Go.Shelf Go.RowKit
shelf_lay Lays.n190 Nm 190 at Try as Try.laysSort
end Go.Proofs
