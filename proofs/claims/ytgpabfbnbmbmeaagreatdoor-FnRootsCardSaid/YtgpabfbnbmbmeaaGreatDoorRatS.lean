/- The laws' own helpers on []Rat. No conditions but lengths far beyond any machine. -/
import Derived.Test.YtgpabfbnbmbmeaaGreatDoorPkA
import Derived.Test.YtgpabfbnbmbmeaaGreatDoorPkB
import Derived.Deep.RegionHeld3
namespace Go.Proofs.YtgpabfbnbmbmeaaGreatDoor
open Go.RowKit

theorem step_fillR (xs : List (Int × Int)) (n k : Nat) (hk : k < n) (hn : xs.length = n) :
    ((flR (xs.take k) ++ List.replicate ((n - k) * 2) 0).set (k * 2) (nthR xs k).1).set (k * 2 + 1) (nthR xs k).2 = flR (xs.take (k + 1)) ++ List.replicate ((n - (k + 1)) * 2) 0 := by
  have h1 : (n - k) * 2 = (n - (k + 1)) * 2 + 1 + 1 := by omega
  have e2 : (flR (xs.take k)).length = k * 2 := by rw [flR_len, List.length_take]; omega
  rw [h1, List.replicate_succ, List.replicate_succ, List.set_append_right _ _ (by omega), e2, Nat.sub_self, List.set_cons_zero, List.set_append_right _ _ (by omega), e2, show k * 2 + 1 - k * 2 = 1 by omega, List.set_cons_succ, List.set_cons_zero,
    take_nthR (by omega), flR_append, flR_one, List.append_assoc]; rfl






end Go.Proofs.YtgpabfbnbmbmeaaGreatDoor
