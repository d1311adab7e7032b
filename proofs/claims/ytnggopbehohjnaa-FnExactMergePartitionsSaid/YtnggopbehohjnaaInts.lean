/- The laws' own helpers on []int: toIntS copies, eqIntS compares, markIntS writes numbers, heldIntS asks for them. No conditions but lengths far beyond any machine. -/
import Derived.Test.YtnggopbehohjnaaLib
namespace Go.Proofs.Ytnggopbehohjnaa
open Go.RowKit

theorem step_fill (xs : List Int) (n k : Nat) (hk : k < n) (hn : xs.length = n) : (xs.take k ++ List.replicate (n - k) 0).set k (nth xs k) = xs.take (k + 1) ++ List.replicate (n - (k + 1)) 0 := by
  have h1 : n - k = (n - (k + 1)) + 1 := by omega
  have e2 : min k xs.length = k := by omega
  rw [h1, List.replicate_succ, List.set_append_right _ _ (by rw [List.length_take]; omega), List.length_take, e2, Nat.sub_self, take_nth (by omega), List.append_assoc]; rfl



/-- k, k + 1, .. : n numbers. -/
def marks (k n : Nat) : List Int := (List.range n).map fun j => ((k + j : Nat) : Int)
theorem marks_len (k n : Nat) : (marks k n).length = n := by simp [marks]
theorem nth_marks {k n j : Nat} (h : j < n) : nth (marks k n) j = ((k + j : Nat) : Int) := by
  rw [nth_eq (by rw [marks_len]; exact h)]; simp [marks]
theorem marks_step (xs : List Int) (k n j : Nat) (hj : j < n) (hn : xs.length = n) : (marks k j ++ xs.drop j).set j ((k + j : Nat) : Int) = marks k (j + 1) ++ xs.drop (j + 1) := by
  rw [List.set_append_right _ _ (by rw [marks_len]; omega), marks_len, Nat.sub_self, List.drop_eq_getElem_cons (by omega), List.set_cons_zero]
  simp [marks, List.range_succ]



end Go.Proofs.Ytnggopbehohjnaa
