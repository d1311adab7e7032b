/- Whether cuts are Markov for a map: the reference's. No conditions. -/
import Derived.Test.YtfhhofecfllbfaaGreatMarkov
namespace Go.Proofs.YtfhhofecfllbfaaGreat
open Go.RowKit

end Go.Proofs.YtfhhofecfllbfaaGreat
