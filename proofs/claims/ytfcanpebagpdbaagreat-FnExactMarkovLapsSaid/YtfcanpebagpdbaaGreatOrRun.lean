/- The reference's orRun. No conditions but valid maps. -/
import Derived.Test.YtfcanpebagpdbaaGreatPkG
import Derived.Test.YtfcanpebagpdbaaGreatOrbit
namespace Go.Proofs.YtfcanpebagpdbaaGreat
open Go.RowKit

def lenV : Value → Nat | .slice _ n _ => n | _ => 0


end Go.Proofs.YtfcanpebagpdbaaGreat
