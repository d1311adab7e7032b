/- The graph the other way round, a further arrow: the reference's walks and the program's. -/
import Derived.Test.YtfcanpebagpdbaaGreatPkA
namespace Go.Proofs.YtfcanpebagpdbaaGreat
open Go.RowKit

theorem RetM.ob {n m : Nat} {f : Nat → Nat → Int} {w : World} {e : Ending} {w' : World} {g cap : Nat} {rb rc : Nat → Nat} (h : MatT w' w.heap.size w'.heap.size g n cap m rb rc f) (hB : Below w.heap.size w w') (he : e = .returned (.tuple #[.slice (some ⟨g, 0, none⟩) n cap, .bool true])) : RetOB OwnSS (tab n m f, true) w e w' :=
  ⟨_, he, h.own, hB⟩

/-- What both ReverseGraph functions return. -/
def ReverseGraph_v (g : List (List Int)) : List (List Int) × Bool := if graphB g = true then (tab g.length g.length (fun i j => ent g j i), true) else ([], false)
theorem ReverseGraph_no {g : List (List Int)} (h : graphB g = false) : ReverseGraph_v g = ([], false) := by simp [ReverseGraph_v, h]
theorem ReverseGraph_yes {g : List (List Int)} (h : graphB g = true) : ReverseGraph_v g = (tab g.length g.length (fun i j => ent g j i), true) := by simp [ReverseGraph_v, h]
theorem ReverseGraph_len (g : List (List Int)) : szIntSS (ReverseGraph_v g).1 ≤ 1099511627776 := by
  cases h : graphB g
  · rw [ReverseGraph_no h]; exact Nat.zero_le _
  · rw [ReverseGraph_yes h, sz_tab]
    have h2 := (graphB_sz h).2
    have : g.length * g.length ≤ 8 * 8 := Nat.mul_le_mul h2 h2
    omega




end Go.Proofs.YtfcanpebagpdbaaGreat
