/- Partitions: the program's isPartition, the reference's mkGood. No conditions. -/
import Derived.Test.YtgpabfbnbmbmeaaGreatDoorUnits
namespace Go.Proofs.YtgpabfbnbmbmeaaGreatDoor
open Go.RowKit
set_option maxRecDepth 100000

/-- A partition: 2 to 9 fractions of 0..1, strictly rising from 0 to 1. -/
def partB (xs : List (Int × Int)) : Bool :=
  inB xs.length 2 9 && (unitsB xs && (riseK xs xs.length && (decide (nthR xs 0 = (0, 1)) && decide (nthR xs (xs.length - 1) = (1, 1)))))


theorem partB_unit {xs : List (Int × Int)} {k : Nat} (hk : k < xs.length) (h : unitR (nthR xs k).1 (nthR xs k).2 = false) : partB xs = false := by
  have : unitsB xs = false := by
    cases hu : unitsB xs
    · rfl
    · rw [unitsB_nth hu hk] at h; cases h
  simp [partB, this]
theorem partB_rise {xs : List (Int × Int)} (h : riseK xs xs.length = false) : partB xs = false := by simp [partB, h]
theorem unitsB_of {xs : List (Int × Int)} (h : ∀ j, j < xs.length → unitR (nthR xs j).1 (nthR xs j).2 = true) : unitsB xs = true := by
  unfold unitsB
  rw [Bool.not_eq_true', List.any_eq_false]
  intro x hx
  obtain ⟨j, hj, rfl⟩ := List.getElem_of_mem hx
  have := h j hj
  rw [nthR_eq hj] at this
  simp [this]


end Go.Proofs.YtgpabfbnbmbmeaaGreatDoor
