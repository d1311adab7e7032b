/- Products and quotients of fractions; the calculator's sum, product, quotient. No conditions but bounds. -/
import Derived.Test.YtgpabfbnbmbmeaaGreatDoorPkA
import Derived.Test.YtgpabfbnbmbmeaaGreatDoorPkC
import Derived.Deep.RegionHeld3
namespace Go.Proofs.YtgpabfbnbmbmeaaGreatDoor
open Go.RowKit

theorem prodNN {x y : Int} (hx : -1000000000 ≤ x ∧ x ≤ 1000000000) (hy : -1000000000 ≤ y ∧ y ≤ 1000000000) : -1000000000000000000 ≤ x * y ∧ x * y ≤ 1000000000000000000 := by
  have h1 : (x * y).natAbs = x.natAbs * y.natAbs := Int.natAbs_mul x y
  have h2 : x.natAbs * y.natAbs ≤ 1000000000 * 1000000000 := Nat.mul_le_mul (by omega) (by omega)
  omega



end Go.Proofs.YtgpabfbnbmbmeaaGreatDoor
