/- The reference's shrunk interval. No conditions but valid maps and intervals. -/
import Derived.Test.YtfhhofecfllbfaaGreatBefS
import Derived.Test.YtfhhofecfllbfaaGreatPkM
namespace Go.Proofs.YtfhhofecfllbfaaGreat
open Go.RowKit
theorem below_set4 {E : Nat} {w W : World} (h : Below E w W) {b : Nat} (hb : E ≤ b) (q : Quad) : Below E w (set4 W b q) := by
 unfold set4
 exact ((((h.setCell (p := ⟨b, 0, none⟩) hb _).setCell (p := ⟨b, 1, none⟩) hb _).setCell (p := ⟨b, 2, none⟩) hb _).setCell (p := ⟨b, 3, none⟩) hb _)
end Go.Proofs.YtfhhofecfllbfaaGreat
