/- The states that a fraction belongs to. No conditions. -/
import Derived.Test.YtgpabfbnbmbmeaaGreatDoorBetween
namespace Go.Proofs.YtgpabfbnbmbmeaaGreatDoor
open Go.RowKit
set_option maxRecDepth 100000

def stB (xs : List (Int × Int)) (x : Int × Int) (i : Nat) : Bool := !(ltB x.1 x.2 (nthR xs i).1 (nthR xs i).2) && !(ltB (nthR xs (i + 1)).1 (nthR xs (i + 1)).2 x.1 x.2)
/-- Those of the first k states that x belongs to. -/
def stK (xs : List (Int × Int)) (x : Int × Int) : Nat → List Int
  | 0 => []
  | k + 1 => if stB xs x k = true then stK xs x k ++ [(k : Int)] else stK xs x k
def stL (xs : List (Int × Int)) (x : Int × Int) : List Int := stK xs x (xs.length - 1)
theorem stK_len (xs : List (Int × Int)) (x : Int × Int) (k : Nat) : (stK xs x k).length ≤ k := by
  induction k with
  | zero => exact Nat.le_refl _
  | succ k ih =>
    unfold stK
    split
    · rw [List.length_append]; simp; exact ih
    · omega
theorem cmpN_le (n d n' d' : Int) : decide (cmpN n d n' d' ≤ 0) = !(ltB n' d' n d) := by
  unfold cmpN ltB sgn
  by_cases h : n' * d < n * d'
  · rw [if_pos (by omega), decide_eq_true h]; rfl
  · rw [decide_eq_false h, if_neg (by omega)]
    by_cases h2 : n * d' - n' * d < 0
    · rw [if_pos h2]; rfl
    · rw [if_neg h2]; rfl



end Go.Proofs.YtgpabfbnbmbmeaaGreatDoor
