/- The program's laps. No conditions but valid maps. -/
import Derived.Test.YtfhhofecfllbfaaGreatLapLaw
import Derived.Test.YtfhhofecfllbfaaGreatPkA
namespace Go.Proofs.YtfhhofecfllbfaaGreat
open Go.RowKit
set_option maxRecDepth 100000

end Go.Proofs.YtfhhofecfllbfaaGreat
