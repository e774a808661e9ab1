/- slices.Sort at []int, by the shelf's contract, in this program. -/
import Derived.Test.YtfmikgbachnneaaDoorChecked
import Derived.Ground.NamesProg
import Derived.Shelf.Lay
import Derived.Shelf.Sort.Plain
import Derived.Shelf.Slices.In.SortNone
set_option linter.unusedSimpArgs false
set_option linter.unusedVariables false
namespace Go.Proofs
open Go.Shelf
shelf_lay Lays.n189 Nm 189 at Tryd as Tryd.laysSort
end Go.Proofs
