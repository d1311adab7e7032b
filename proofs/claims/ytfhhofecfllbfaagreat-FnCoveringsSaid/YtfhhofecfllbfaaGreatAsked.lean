/- Whether a map and cuts are valid: the reference's. No conditions. -/
import Derived.Test.YtfhhofecfllbfaaGreatPkE
import Derived.Test.YtfhhofecfllbfaaGreatPkH
namespace Go.Proofs.YtfhhofecfllbfaaGreat
open Go.RowKit

end Go.Proofs.YtfhhofecfllbfaaGreat
