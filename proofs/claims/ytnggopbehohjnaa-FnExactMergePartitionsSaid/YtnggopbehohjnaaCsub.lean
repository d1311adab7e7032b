/- The calculator's difference. No conditions but bounds. -/
import Derived.Test.YtnggopbehohjnaaKeep
namespace Go.Proofs.Ytnggopbehohjnaa
open Go.RowKit


end Go.Proofs.Ytnggopbehohjnaa
