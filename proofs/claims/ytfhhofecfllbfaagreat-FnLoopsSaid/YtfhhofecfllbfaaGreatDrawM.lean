/- Drawn maps with cuts, drawn partitions, told loosely. No conditions but small sizes. -/
import Derived.Test.YtfhhofecfllbfaaGreatDrawS
import Derived.Test.YtfhhofecfllbfaaGreatPkU
namespace Go.Proofs.YtfhhofecfllbfaaGreat
open Go.RowKit
theorem EndX.unit {f : List Quad} {lin : Bool} {r : List (Int × Int) × Bool} (hf : MapP f) (h : EndX f lin r) (hr : r.2 = true) : 0 < r.1.length ∧ r.1.length ≤ 9 ∧ ∀ x, x ∈ r.1 → unitR x.1 x.2 = true := by
 rcases h with ⟨rfl, _⟩ | ⟨_, h⟩
 ·cases hr
 ·refine ⟨List.length_pos_of_mem (h.1.2.1 (0, 1) (List.mem_cons_self ..)), h.2.1, fun x hx => ?_⟩
  have hc : ClosedD (atOk f) (atZ f) (refS f lin) (r.1.filter fun y => unitR y.1 y.2) := by
   refine ⟨fun y hy => List.mem_filter.2 ⟨h.1.2.1 y hy, refS_unit hf lin y hy⟩, fun y hy => ?_⟩
   obtain ⟨h1, h2⟩ := List.mem_filter.1 hy
   obtain ⟨h3, h4⟩ := h.2.2 y h1
   exact ⟨h3, List.mem_filter.2 ⟨h4, at_unit hf h2 h3⟩⟩
  exact (List.mem_filter.1 (h.1.2.2 _ hc x hx)).2
end Go.Proofs.YtfhhofecfllbfaaGreat
