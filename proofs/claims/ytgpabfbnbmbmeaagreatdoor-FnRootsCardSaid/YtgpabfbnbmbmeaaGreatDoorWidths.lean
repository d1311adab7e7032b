/- The widths of the states. No conditions. -/
import Derived.Test.YtgpabfbnbmbmeaaGreatDoorCsub
import Derived.Test.YtgpabfbnbmbmeaaGreatDoorStatesOf
namespace Go.Proofs.YtgpabfbnbmbmeaaGreatDoor
open Go.RowKit


/-- The width of state i. -/
def wdR (xs : List (Int × Int)) (i : Nat) : (Int × Int) × Bool := subR (nthR xs (i + 1)) (nthR xs i)
def wdK (xs : List (Int × Int)) (k : Nat) : List (Int × Int) := (List.range k).map fun i => (wdR xs i).1
def wdOk (xs : List (Int × Int)) (k : Nat) : Bool := (List.range k).all fun i => (wdR xs i).2
theorem wdK_len (xs : List (Int × Int)) (k : Nat) : (wdK xs k).length = k := by simp [wdK]
theorem wdK_step (xs : List (Int × Int)) (k : Nat) : wdK xs (k + 1) = wdK xs k ++ [(wdR xs k).1] := by simp [wdK, List.range_succ]
theorem wdOk_step (xs : List (Int × Int)) (k : Nat) : wdOk xs (k + 1) = (wdOk xs k && (wdR xs k).2) := by simp [wdOk, List.range_succ, List.all_append]
theorem wdOk_false {xs : List (Int × Int)} {k n : Nat} (h : k < n) (hb : (wdR xs k).2 = false) : wdOk xs n = false := by
  unfold wdOk
  rw [List.all_eq_false]
  exact ⟨k, List.mem_range.2 h, by rw [hb]; simp⟩
def WidthsOf_v (xs : List (Int × Int)) : List (Int × Int) × Bool := if (partB xs && wdOk xs (xs.length - 1)) = true then (wdK xs (xs.length - 1), true) else ([], false)
theorem WidthsOf_len (xs : List (Int × Int)) : szRatS (WidthsOf_v xs).1 ≤ 1099511627776 := by
  unfold WidthsOf_v
  split
  · rename_i h
    rw [Bool.and_eq_true] at h
    have h1 := partB_len h.1
    show (wdK xs (xs.length - 1)).length ≤ _
    rw [wdK_len]; omega
  · simp
theorem partB_good {xs : List (Int × Int)} (h : partB xs = true) : ∀ i, i < xs.length → goodR (nthR xs i).1 (nthR xs i).2 = true := by
  unfold partB at h
  rw [Bool.and_eq_true, Bool.and_eq_true] at h
  intro i hi
  have := unitsB_nth h.2.1 hi
  unfold unitR at this
  rw [Bool.and_eq_true] at this
  exact this.1

end Go.Proofs.YtgpabfbnbmbmeaaGreatDoor
