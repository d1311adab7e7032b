/- ShrinkTo: the program's and the reference's. No conditions but small sizes. -/
import Derived.Test.YtfhhofecfllbfaaGreatCoversIv
namespace Go.Proofs.YtfhhofecfllbfaaGreat
open Go.RowKit
end Go.Proofs.YtfhhofecfllbfaaGreat
