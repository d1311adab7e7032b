/- laws.heldIntervalS, asked of what a mark has written. No conditions but small sizes. -/
import Derived.Test.YtfhhofecfllbfaaGreatPkH
namespace Go.Proofs.YtfhhofecfllbfaaGreat
open Go.RowKit
end Go.Proofs.YtfhhofecfllbfaaGreat
