/- Whether a fraction lies in an interval; running through a list. No conditions. -/
import Derived.Test.YtfcanpebagpdbaaGreatPkE
import Derived.Test.YtfcanpebagpdbaaGreatOrb
import Derived.Test.YtfcanpebagpdbaaGreatPkC
namespace Go.Proofs.YtfcanpebagpdbaaGreat
open Go.RowKit

def inI (i : Quad) (x : Int × Int) : Bool := !(ltB x.1 x.2 i.1.1 i.1.2) && !(ltB i.2.1 i.2.2 x.1 x.2)
/-- The first k fractions of an orbit lie in the first k intervals. -/
def allIn (f l : List Quad) (x : Int × Int) (k : Nat) : Bool := (List.range k).all fun i => inI (nth4 l i) (pz f x i)
theorem allIn_step (f l : List Quad) (x : Int × Int) (k : Nat) : allIn f l x (k + 1) = (allIn f l x k && inI (nth4 l k) (pz f x k)) := by simp [allIn, List.range_succ, List.all_append]
theorem allIn_false {f l : List Quad} {x : Int × Int} {k n : Nat} (h : k < n) (hb : inI (nth4 l k) (pz f x k) = false) : allIn f l x n = false := by
  unfold allIn
  rw [List.all_eq_false]
  exact ⟨k, List.mem_range.2 h, by rw [hb]; simp⟩
def runs_v (f l : List Quad) (x : Int × Int) : Bool × Bool :=
  if runN f x l.length < l.length then (false, false) else if allIn f l x l.length = true then (decide (pz f x l.length = x), true) else (false, true)
def RunsThrough_v (f l : List Quad) (x : Int × Int) : Bool × Bool := if mapB f = true ∧ ivsB l = true ∧ unitR x.1 x.2 = true then runs_v f l x else (false, false)


end Go.Proofs.YtfcanpebagpdbaaGreat
