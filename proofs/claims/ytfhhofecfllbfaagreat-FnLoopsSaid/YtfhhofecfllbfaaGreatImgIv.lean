/- ImageOf at intervals, and ImageInterval: the program's and the reference's. No conditions but small sizes. -/
import Derived.Test.YtfhhofecfllbfaaGreatShrinkTo
import Derived.Test.YtfhhofecfllbfaaGreatBoxV
namespace Go.Proofs.YtfhhofecfllbfaaGreat
open Go.RowKit
end Go.Proofs.YtfhhofecfllbfaaGreat
