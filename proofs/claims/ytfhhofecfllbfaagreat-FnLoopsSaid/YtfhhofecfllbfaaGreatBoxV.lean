/- A box of a fraction. No conditions but those that each theorem states. -/
import Derived.Test.YtfhhofecfllbfaaGreatPkL
namespace Go.Proofs.YtfhhofecfllbfaaGreat
open Go.RowKit
def BoxV (w : World) (b : Nat) (r : Int × Int) : Prop := (w.cell? ⟨b, 0, none⟩ = some (.int .i64 r.1) ∧ w.cell? ⟨b, 1, none⟩ = some (.int .i64 r.2)) ∧ w.frozen? ⟨b, 0, none⟩ = false ∧ w.frozen? ⟨b, 1, none⟩ = false
theorem BoxV.grown {w w' : World} {b : Nat} {q : Int × Int} {r : Option Nat} (h : BoxV w b q) (hg : w.grownBy w' r) (hr : r ≠ some b) : BoxV w' b q :=
 ⟨⟨gcell hg h.1.1 hr, gcell hg h.1.2 hr⟩, gfrozen hg h.1.1 h.2.1 hr, gfrozen hg h.1.2 h.2.2 hr⟩
theorem BoxV.below {w w' : World} {b : Nat} {q : Int × Int} (h : BoxV w b q) (hB : Below w.heap.size w w') : BoxV w' b q := h.grown (bgrow hB none) (by simp)
theorem BoxV.lt {w : World} {b : Nat} {q : Int × Int} (h : BoxV w b q) : b < w.heap.size := by
 have := World.block_lt_of_cell? w _ h.1.1
 exact this
end Go.Proofs.YtfhhofecfllbfaaGreat
