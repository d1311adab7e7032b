/- Where a polynomial's roots lie on the grid: signs at n/d, and the intervals in which the sign turns. -/
import Derived.Test.YtblippeklbhepaaValue
import Derived.Test.YtblippeklbhepaaSigns
namespace Go.Proofs.Ytblippeklbhepaa
open Go.RowKit

/-- The value at n/d, times a power of d. -/
def hv (n d : Int) : List Int → Int
  | [] => 0
  | a :: xs => hv n d xs * n + a * d ^ xs.length
theorem hv_snoc (n d : Int) (xs : List Int) (a : Int) : hv n d (xs ++ [a]) = hv n d xs * d + a * n ^ xs.length := by
  induction xs with
  | nil => simp [hv]
  | cons b xs ih =>
    simp only [List.cons_append, hv, ih, List.length_append, List.length_cons, List.length_nil, Nat.zero_add, Int.pow_succ]
    simp only [Int.add_mul, Int.mul_assoc]
    rw [Int.mul_comm d n]; omega
theorem hv_take (n d : Int) {xs : List Int} {k : Nat} (h : k < xs.length) : hv n d (xs.take (k + 1)) = hv n d (xs.take k) * d + nth xs k * n ^ k := by
  rw [take_nth h, hv_snoc, List.length_take, Nat.min_eq_left (by omega)]
theorem hv_drop (n d : Int) {xs : List Int} {k : Nat} (h : k < xs.length) : hv n d (xs.drop k) = hv n d (xs.drop (k + 1)) * n + nth xs k * d ^ (xs.length - (k + 1)) := by
  rw [List.drop_eq_getElem_cons h, hv, nth_eq h, List.length_drop]

/-- The sign at n/d. -/
def signV (xs : List Int) (n d : Int) : Int := sgn (wrap64 (hv n d xs))
theorem signV_cases (xs : List Int) (n d : Int) : signV xs n d = 1 ∨ signV xs n d = -1 ∨ signV xs n d = 0 := by
  unfold signV sgn
  split
  · exact .inl rfl
  · split
    · exact .inr (.inl rfl)
    · exact .inr (.inr rfl)

/-- After k terms: the sum, the power. -/
def HInv (xs : List Int) (n d : Int) (k : Nat) (s u : Int) : Prop := s = wrap64 (hv n d (xs.take k)) ∧ u = wrap64 (n ^ k)
theorem HInv.start (xs : List Int) (n d : Int) : HInv xs n d 0 0 1 := ⟨by rw [List.take_zero, hv]; unfold wrap64; omega, by rw [Int.pow_zero]; unfold wrap64; omega⟩
theorem HInv.step {xs : List Int} {n d : Int} {k : Nat} {s u : Int} (h : HInv xs n d k s u) (hk : k < xs.length) : HInv xs n d (k + 1) (wrap64 (wrap64 (s * d) + wrap64 (nth xs k * u))) (wrap64 (u * n)) := by
  refine ⟨?_, ?_⟩
  · rw [h.1, h.2, wrap64_mul', wrap64_add', wrap64_mul, wrap64_add, hv_take n d hk]
  · rw [h.2, wrap64_mul, Int.pow_succ]



/-- A root lies in [k/d, (k+1)/d). -/
def rootB (xs : List Int) (d : Int) (k : Nat) : Bool := decide (signV xs k d = 0 ∨ signV xs k d * signV xs ((k : Int) + 1) d < 0)
theorem rootB_zero {xs : List Int} {d : Int} {k : Nat} (h : signV xs k d = 0) : rootB xs d k = true := by simp [rootB, h]
theorem rootB_else {xs : List Int} {d : Int} {k : Nat} (h : signV xs k d ≠ 0) : rootB xs d k = decide (wrap64 (signV xs k d * signV xs ((k : Int) + 1) d) < 0) := by
  have : wrap64 (signV xs k d * signV xs ((k : Int) + 1) d) = signV xs k d * signV xs ((k : Int) + 1) d := by
    rcases signV_cases xs k d with e | e | e <;> rcases signV_cases xs ((k : Int) + 1) d with e2 | e2 | e2 <;> rw [e, e2] <;> simp [wrap64]
  simp [rootB, h, this]
theorem rootB_else' {xs : List Int} {d : Int} {k : Nat} (h : signV xs k d ≠ 0) : rootB xs d k = (wrap64 (signV xs k d * signV xs ((k : Int) + 1) d) == -1) := by
  rw [rootB_else h]
  rcases signV_cases xs k d with e | e | e <;> rcases signV_cases xs ((k : Int) + 1) d with e2 | e2 | e2 <;> rw [e, e2] <;> simp [wrap64]
/-- The places below k. -/
def rootTo (xs : List Int) (d : Int) : Nat → List Int
  | 0 => []
  | k + 1 => if rootB xs d k = true then rootTo xs d k ++ [(k : Int)] else rootTo xs d k
theorem rootTo_len (xs : List Int) (d : Int) (k : Nat) : (rootTo xs d k).length ≤ k := by
  induction k with
  | zero => exact Nat.le_refl _
  | succ k ih =>
    rw [rootTo]
    split
    · rw [List.length_append, List.length_cons, List.length_nil]; omega
    · omega
theorem rootTo_in {xs : List Int} {d : Int} {k : Nat} (h : rootB xs d k = true) : rootTo xs d (k + 1) = rootTo xs d k ++ [(k : Int)] := by rw [rootTo, if_pos h]
theorem rootTo_out {xs : List Int} {d : Int} {k : Nat} (h : rootB xs d k = false) : rootTo xs d (k + 1) = rootTo xs d k := by rw [rootTo, if_neg (by rw [h]; decide)]
/-- What both functions return. -/
def RootPlaces_v (xs : List Int) (d : Int) : List Int × Bool := if (polyB xs && (decide (xs.length ≠ 0) && inB d 1 30)) = true then (rootTo xs d 30, true) else ([], false)
theorem RootPlaces_len (xs : List Int) (d : Int) : szIntS (RootPlaces_v xs d).1 ≤ 1099511627776 := by
  unfold RootPlaces_v szIntS
  split
  · have := rootTo_len xs d 30; simp only; omega
  · exact Nat.zero_le _
theorem RootPlaces_no1 {xs : List Int} {d : Int} (h : polyB xs = false) : RootPlaces_v xs d = ([], false) := by simp [RootPlaces_v, h]
theorem RootPlaces_no2 {xs : List Int} {d : Int} (h : xs.length = 0) : RootPlaces_v xs d = ([], false) := by simp [RootPlaces_v, h]
theorem RootPlaces_no3 {xs : List Int} {d : Int} (h : inB d 1 30 = false) : RootPlaces_v xs d = ([], false) := by simp [RootPlaces_v, h]
theorem RootPlaces_yes {xs : List Int} {d : Int} (h1 : polyB xs = true) (h2 : xs.length ≠ 0) (h3 : inB d 1 30 = true) : RootPlaces_v xs d = (rootTo xs d 30, true) := by
  rw [RootPlaces_v, h1, h3, decide_eq_true h2]; rfl


end Go.Proofs.Ytblippeklbhepaa
