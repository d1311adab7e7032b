/- Several texts in one: Runs Chain ChFaults OrRun ChRuns RunsThrough ChainFns. No conditions but those that each theorem states. -/
import Derived.Test.YtfhhofecfllbfaaGreatPkK
import Derived.Deep.RegionHeld3
import Derived.BigQuiet
import Derived.Test.YtfhhofecfllbfaaGreatPkL
import Derived.Test.YtfhhofecfllbfaaGreatPkG
import Derived.Test.YtfhhofecfllbfaaGreatPkH

namespace Go.Proofs.YtfhhofecfllbfaaGreat
open Go.RowKit
set_option maxRecDepth 100000

end Go.Proofs.YtfhhofecfllbfaaGreat

namespace Go.Proofs.YtfhhofecfllbfaaGreat
open Go.RowKit
set_option maxRecDepth 100000

/-- The images of the first k intervals are told. -/
def ckK (f l : List Quad) (k : Nat) : Bool := (List.range k).all fun i => imgOk f (nth4 l i).1 (nth4 l i).2
theorem ckK_step (f l : List Quad) (k : Nat) : ckK f l (k + 1) = (ckK f l k && imgOk f (nth4 l k).1 (nth4 l k).2) := by simp [ckK, List.range_succ, List.all_append]
theorem ckK_false {f l : List Quad} {k n : Nat} (h : k < n) (hb : imgOk f (nth4 l k).1 (nth4 l k).2 = false) : ckK f l n = false := by
  unfold ckK
  rw [List.all_eq_false]
  exact ⟨k, List.mem_range.2 h, by rw [hb]; simp⟩
end Go.Proofs.YtfhhofecfllbfaaGreat

namespace Go.Proofs.YtfhhofecfllbfaaGreat
open Go.RowKit
set_option maxRecDepth 100000

end Go.Proofs.YtfhhofecfllbfaaGreat

namespace Go.Proofs.YtfhhofecfllbfaaGreat
open Go.RowKit

end Go.Proofs.YtfhhofecfllbfaaGreat

namespace Go.Proofs.YtfhhofecfllbfaaGreat
open Go.RowKit
set_option maxRecDepth 100000

end Go.Proofs.YtfhhofecfllbfaaGreat

namespace Go.Proofs.YtfhhofecfllbfaaGreat
open Go.RowKit

end Go.Proofs.YtfhhofecfllbfaaGreat

namespace Go.Proofs.YtfhhofecfllbfaaGreat
open Go.RowKit

end Go.Proofs.YtfhhofecfllbfaaGreat
