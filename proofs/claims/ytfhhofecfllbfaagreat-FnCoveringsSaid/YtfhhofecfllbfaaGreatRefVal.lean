/- RefineToMarkov: the value that both return. Plain laws, no program in sight. -/
import Derived.Test.YtfhhofecfllbfaaGreatRefLaw
import Derived.Test.YtfhhofecfllbfaaGreatPkI
import Derived.Test.YtfhhofecfllbfaaGreatMarkov
namespace Go.Proofs.YtfhhofecfllbfaaGreat
open Go.RowKit

end Go.Proofs.YtfhhofecfllbfaaGreat
