/- Whether points are a map: the program's isMap; the X of points. No conditions. -/
import Derived.Test.YtgpabfbnbmbmeaaGreatDoorMapIs
import Derived.Test.YtgpabfbnbmbmeaaGreatDoorPkC
namespace Go.Proofs.YtgpabfbnbmbmeaaGreatDoor
open Go.RowKit
set_option maxRecDepth 100000




end Go.Proofs.YtgpabfbnbmbmeaaGreatDoor
