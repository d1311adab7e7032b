/- Four cells of a struct of two fractions in a block. No conditions. -/
import Derived.Test.YtgpabfbnbmbmeaaGreatDoorPkC
import Derived.Test.YtgpabfbnbmbmeaaGreatDoorSlope
namespace Go.Proofs.YtgpabfbnbmbmeaaGreatDoor
open Go.RowKit

/-- A box with a pair of fractions. -/
def BoxQ (w : World) (b : Nat) (q : Quad) : Prop := w.cell? ⟨b, 0, none⟩ = some (.int .i64 q.1.1) ∧ w.cell? ⟨b, 1, none⟩ = some (.int .i64 q.1.2) ∧ w.cell? ⟨b, 2, none⟩ = some (.int .i64 q.2.1) ∧ w.cell? ⟨b, 3, none⟩ = some (.int .i64 q.2.2)
theorem BoxQ.lt {w : World} {b : Nat} {q : Quad} (h : BoxQ w b q) : b < w.heap.size := by
  have := World.block_lt_of_cell? w _ h.1
  exact this
theorem BoxQ.grown {w w' : World} {b : Nat} {q : Quad} {r : Option Nat} (h : BoxQ w b q) (hg : w.grownBy w' r) (hr : r ≠ some b) : BoxQ w' b q := ⟨gcell hg h.1 hr, gcell hg h.2.1 hr, gcell hg h.2.2.1 hr, gcell hg h.2.2.2 hr⟩
theorem BoxQ.below {w w' : World} {b : Nat} {q : Quad} (h : BoxQ w b q) (hB : Below w.heap.size w w') : BoxQ w' b q := h.grown (bgrow hB none) (by simp)

theorem Grow.keptC {w w' : World} {B g : Nat} {v : Value} {xs : List Int} (h : Grow w B v xs) (hg : w.grownBy w' (some g)) (hlt : g < B) : Grow w' B v xs :=
  World.ownsRow.kept h hg (.inr (fun e => by have := (World.ownsRow.lt h g e).1; omega))

end Go.Proofs.YtgpabfbnbmbmeaaGreatDoor
