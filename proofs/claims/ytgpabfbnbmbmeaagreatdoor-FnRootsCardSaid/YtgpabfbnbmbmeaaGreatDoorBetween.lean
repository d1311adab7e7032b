/- The intervals between neighbouring fractions. No conditions. -/
import Derived.Test.YtgpabfbnbmbmeaaGreatDoorQuad
import Derived.Test.YtgpabfbnbmbmeaaGreatDoorPart
namespace Go.Proofs.YtgpabfbnbmbmeaaGreatDoor
open Go.RowKit
set_option maxRecDepth 100000

/-- The first k intervals between neighbours. -/
def betwK (xs : List (Int × Int)) (k : Nat) : List Quad := (List.range k).map fun i => (nthR xs i, nthR xs (i + 1))
def betwL (xs : List (Int × Int)) : List Quad := betwK xs (xs.length - 1)
theorem betwK_len (xs : List (Int × Int)) (k : Nat) : (betwK xs k).length = k := by simp [betwK]
theorem betwK_step (xs : List (Int × Int)) (k : Nat) : betwK xs (k + 1) = betwK xs k ++ [(nthR xs k, nthR xs (k + 1))] := by simp [betwK, List.range_succ]
theorem nth4_betwK (xs : List (Int × Int)) {k i : Nat} (h : i < k) : nth4 (betwK xs k) i = (nthR xs i, nthR xs (i + 1)) := by
  rw [nth4_eq (by rw [betwK_len]; exact h)]; simp [betwK]


end Go.Proofs.YtgpabfbnbmbmeaaGreatDoor
