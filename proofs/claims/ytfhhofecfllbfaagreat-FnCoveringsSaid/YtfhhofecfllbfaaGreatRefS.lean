/- RefineToMarkov: the reference's. No conditions but a valid map. -/
import Derived.Test.YtfhhofecfllbfaaGreatRefVal
import Derived.Test.YtfhhofecfllbfaaGreatPkJ
import Derived.Test.YtfhhofecfllbfaaGreatMarkovS
namespace Go.Proofs.YtfhhofecfllbfaaGreat
open Go.RowKit

/-- The length of a slice value; 1 for true. -/
def sliceN : Value → Nat
  | .slice _ n _ => n
  | _ => 0
end Go.Proofs.YtfhhofecfllbfaaGreat
