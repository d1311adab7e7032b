/- IsPartition: both return partB. -/
import Derived.Test.YtnggopbehohjnaaGreatPkC
namespace Go.Proofs.YtnggopbehohjnaaGreat
open Go.RowKit

def IsPartition_v (xs : List (Int × Int)) : Bool := partB xs
theorem implIsPartition_any (v : Value) (xs : List (Int × Int)) (w : World) (hv : RatsV w v xs) (hm : szRatS xs ≤ 1099511627776) :
    Calls Tryz.prog 32 #[v] w (Ret (.bool (IsPartition_v xs)) w) := by
  have c1 := isPartition_any v xs w hv hm
  unfold IsPartition_v
  generalize partB xs = R at *
  have c1' := Lib.hid c1
  clear c1
  clear hv
  go_enter Tryz.func32, Tryz.ntmps32
  go_wp2_with fail
  refine (c1'.out).mono ?_
  rintro e w1 ⟨rfl, hB⟩
  go_wp2
  go_ret
  exact ⟨rfl, hB⟩

end Go.Proofs.YtnggopbehohjnaaGreat
