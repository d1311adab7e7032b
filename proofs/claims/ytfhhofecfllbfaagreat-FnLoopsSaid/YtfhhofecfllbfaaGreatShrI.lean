/- The program's shrunk interval. No conditions but valid maps and intervals. -/
import Derived.Test.YtfhhofecfllbfaaGreatPkM
namespace Go.Proofs.YtfhhofecfllbfaaGreat
open Go.RowKit
set_option maxRecDepth 100000
end Go.Proofs.YtfhhofecfllbfaaGreat
