/- CoversInterval: the program's and the reference's. No conditions but small sizes. -/
import Derived.Test.YtfhhofecfllbfaaGreatShrS
import Derived.Test.YtfhhofecfllbfaaGreatShrI
namespace Go.Proofs.YtfhhofecfllbfaaGreat
open Go.RowKit
end Go.Proofs.YtfhhofecfllbfaaGreat
