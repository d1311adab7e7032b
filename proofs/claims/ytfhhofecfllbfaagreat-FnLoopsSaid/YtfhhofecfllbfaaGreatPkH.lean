/- Several texts in one: QuadS LiftQ MarkQ. No conditions but those that each theorem states. -/
import Derived.Test.YtfhhofecfllbfaaGreatPkC
import Derived.Test.YtfhhofecfllbfaaGreatPkB
import Derived.Test.YtfhhofecfllbfaaGreatPkE
import Derived.Test.YtfhhofecfllbfaaGreatPkD
import Derived.Deep.RegionHeld3
import Derived.Deep.Slices
namespace Go.Proofs.YtfhhofecfllbfaaGreat
open Go.RowKit
set_option maxRecDepth 100000
def I64I (q : Quad) : Prop := I64R q.1 ∧ I64R q.2
theorem gfrozen' {w w' : World} (hB : Below w.heap.size w w') {a : Addr} {v : Value} (hc : w.cell? a = some v) (hf : w.frozen? a = false) : w'.frozen? a = false :=
 ((bgrow hB none).frozen_far a (World.block_lt_of_cell? _ _ hc) (by simp)).trans hf
open Go.ChangeShapes Go.WideShapes Go.ChangeAt Go.RowKit
end Go.Proofs.YtfhhofecfllbfaaGreat
