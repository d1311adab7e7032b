/- The least set of fractions that holds given ones and the values of its own. Plain laws, no program in sight. -/
import Derived.Test.YtfhhofecfllbfaaGreatPkI
namespace Go.Proofs.YtfhhofecfllbfaaGreat
open Go.RowKit

section
variable (ok : Int × Int → Bool) (F : Int × Int → Int × Int) (S : List (Int × Int))
end
section
variable {ok : Int × Int → Bool} {F : Int × Int → Int × Int} {S : List (Int × Int)}

end
end Go.Proofs.YtfhhofecfllbfaaGreat
