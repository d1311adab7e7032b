/- The laps of a map, as both programs gather them: a table of starts, ends and signs. No conditions. -/
import Derived.Test.YtfhhofecfllbfaaGreatSlopes
import Derived.Test.YtfhhofecfllbfaaGreatPkA
namespace Go.Proofs.YtfhhofecfllbfaaGreat
open Go.RowKit

end Go.Proofs.YtfhhofecfllbfaaGreat
