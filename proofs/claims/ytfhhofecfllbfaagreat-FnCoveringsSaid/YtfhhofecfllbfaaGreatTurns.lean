/- The turning points of a map: the program's and the reference's. No conditions but valid maps. -/
import Derived.Test.YtfhhofecfllbfaaGreatLaps
import Derived.Test.YtfhhofecfllbfaaGreatPkB
namespace Go.Proofs.YtfhhofecfllbfaaGreat
open Go.RowKit

end Go.Proofs.YtfhhofecfllbfaaGreat
