/- The reference's fractions in lowest terms; small fractions. No conditions but bounds. -/
import Derived.Test.YtnggopbehohjnaaRats
namespace Go.Proofs.Ytnggopbehohjnaa
open Go.RowKit


end Go.Proofs.Ytnggopbehohjnaa
