/- The calculator's sum, product and quotient. No conditions but bounds. -/
import Derived.Test.YtgpabfbnbmbmeaaGreatDoorMulDiv
namespace Go.Proofs.YtgpabfbnbmbmeaaGreatDoor
open Go.RowKit










end Go.Proofs.YtgpabfbnbmbmeaaGreatDoor
