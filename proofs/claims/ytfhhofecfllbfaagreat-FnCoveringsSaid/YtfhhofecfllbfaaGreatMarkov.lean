/- Whether cuts are Markov for a map: the program's and the reference's. No conditions. -/
import Derived.Test.YtfhhofecfllbfaaGreatPkL
import Derived.Test.YtfhhofecfllbfaaGreatTurns
import Derived.Test.YtfhhofecfllbfaaGreatSimple
import Derived.Test.YtfhhofecfllbfaaGreatAsked
import Derived.Test.YtfhhofecfllbfaaGreatPkH
namespace Go.Proofs.YtfhhofecfllbfaaGreat
open Go.RowKit

end Go.Proofs.YtfhhofecfllbfaaGreat
