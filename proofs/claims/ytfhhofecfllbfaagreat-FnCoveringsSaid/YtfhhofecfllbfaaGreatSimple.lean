/- A map without points between pieces of the same slope: the program's and the reference's. No conditions but valid maps. -/
import Derived.Test.YtfhhofecfllbfaaGreatSlopes
import Derived.Test.YtfhhofecfllbfaaGreatPkB
import Derived.Test.YtfhhofecfllbfaaGreatPkE
namespace Go.Proofs.YtfhhofecfllbfaaGreat
open Go.RowKit
set_option maxRecDepth 100000

end Go.Proofs.YtfhhofecfllbfaaGreat
