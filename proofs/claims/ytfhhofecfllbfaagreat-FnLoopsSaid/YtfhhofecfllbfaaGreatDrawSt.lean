/- A drawn partition with a fraction, told loosely. No conditions but small sizes. -/
import Derived.Test.YtfhhofecfllbfaaGreatDrawM
namespace Go.Proofs.YtfhhofecfllbfaaGreat
open Go.RowKit
set_option maxRecDepth 100000
end Go.Proofs.YtfhhofecfllbfaaGreat
