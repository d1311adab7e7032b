/- StatesOf: the program's and the reference's. No conditions. -/
import Derived.Test.YtgpabfbnbmbmeaaGreatDoorStates
namespace Go.Proofs.YtgpabfbnbmbmeaaGreatDoor
open Go.RowKit

def StatesOf_v (xs : List (Int × Int)) (x : Int × Int) : List Int × Bool := if (partB xs && unitR x.1 x.2) = true then (stL xs x, true) else ([], false)
theorem partB_len {xs : List (Int × Int)} (h : partB xs = true) : 2 ≤ xs.length ∧ xs.length ≤ 9 := by
  unfold partB at h
  rw [Bool.and_eq_true] at h
  have := inB_true.1 h.1
  omega
theorem partB_bd {xs : List (Int × Int)} (h : partB xs = true) : ∀ i, i < xs.length → BdR (nthR xs i).1 (nthR xs i).2 := by
  unfold partB at h
  rw [Bool.and_eq_true, Bool.and_eq_true] at h
  exact fun i hi => unitR_bd (unitsB_nth h.2.1 hi)
theorem StatesOf_len (xs : List (Int × Int)) (x : Int × Int) : szIntS (StatesOf_v xs x).1 ≤ 1099511627776 := by
  unfold StatesOf_v szIntS
  split
  · rename_i h
    rw [Bool.and_eq_true] at h
    have h1 := partB_len h.1
    have h2 : (stL xs x).length ≤ xs.length - 1 := stK_len xs x _
    show (stL xs x).length ≤ _
    omega
  · simp


end Go.Proofs.YtgpabfbnbmbmeaaGreatDoor
