/- The calculator's difference. No conditions but bounds. -/
import Derived.Test.YtgpabfbnbmbmeaaGreatDoorKeep
namespace Go.Proofs.YtgpabfbnbmbmeaaGreatDoor
open Go.RowKit


end Go.Proofs.YtgpabfbnbmbmeaaGreatDoor
