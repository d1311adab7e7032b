/- IsPartition: both return partB. -/
import Derived.Test.YtjoeanplgikkcaaPart
namespace Go.Proofs.Ytjoeanplgikkcaa
open Go.RowKit

def IsPartition_v (xs : List (Int × Int)) : Bool := partB xs
theorem implIsPartition_any (v : Value) (xs : List (Int × Int)) (w : World) (hv : RatsV w v xs) (hm : szRatS xs ≤ 1099511627776) :
    Calls Try.prog 56 #[v] w (Ret (.bool (IsPartition_v xs)) w) := by
  have c1 := isPartition_any v xs w hv hm
  unfold IsPartition_v
  generalize partB xs = R at *
  have c1' := Lib.hid c1
  clear c1
  clear hv
  go_enter Try.func56, Try.ntmps56
  go_wp2_with fail
  refine (c1'.out).mono ?_
  rintro e w1 ⟨rfl, hB⟩
  go_wp2
  go_ret
  exact ⟨rfl, hB⟩
theorem specIsPartition_any (v : Value) (xs : List (Int × Int)) (w : World) (hv : RatsV w v xs) (hm : szRatS xs ≤ 1099511627776) :
    Calls Try.prog 54 #[v] w (Ret (.bool (IsPartition_v xs)) w) := by
  have c1 := mkGood_any v xs w hv hm
  unfold IsPartition_v
  generalize partB xs = R at *
  have c1' := Lib.hid c1
  clear c1
  clear hv
  go_enter Try.func54, Try.ntmps54
  go_wp2_with fail
  refine (c1'.out).mono ?_
  rintro e w1 ⟨rfl, hB⟩
  go_wp2
  go_ret
  exact ⟨rfl, hB⟩

end Go.Proofs.Ytjoeanplgikkcaa
