/- The value of a polynomial at an integer: the reference's sum of powers and the program's Horner scheme, both modulo 2^64. -/
import Derived.Test.YtjoeanplgikkcaaWrap
import Derived.Test.YtjoeanplgikkcaaPolyIs
import Derived.Test.YtjoeanplgikkcaaBackward
import Derived.Test.YtjoeanplgikkcaaTrim
namespace Go.Proofs.Ytjoeanplgikkcaa
open Go.RowKit

/-- The value of the coefficients at x. -/
def pv (x : Int) : List Int → Int
  | [] => 0
  | n :: xs => pv x xs * x + n
theorem pv_snoc (x : Int) (xs : List Int) (n : Int) : pv x (xs ++ [n]) = pv x xs + n * x ^ xs.length := by
  induction xs with
  | nil => simp [pv]
  | cons a xs ih =>
    simp only [List.cons_append, pv, ih, List.length_cons, Int.pow_succ]
    rw [Int.add_mul, Int.mul_assoc]; omega
theorem pv_take (x : Int) {xs : List Int} {k : Nat} (h : k < xs.length) : pv x (xs.take (k + 1)) = pv x (xs.take k) + nth xs k * x ^ k := by
  rw [take_nth h, pv_snoc, List.length_take, Nat.min_eq_left (by omega)]
theorem pv_drop (x : Int) {xs : List Int} {k : Nat} (h : k < xs.length) : pv x (xs.drop k) = pv x (xs.drop (k + 1)) * x + nth xs k := by
  rw [List.drop_eq_getElem_cons h, pv, nth_eq h]

/-- What both functions return. -/
def PolyValue_v (xs : List Int) (x : Int) : Int × Bool := if (polyB xs && inB x (-9) 9) = true then (wrap64 (pv x xs), true) else (0, false)
theorem PolyValue_no1 {xs : List Int} {x : Int} (h : polyB xs = false) : PolyValue_v xs x = (0, false) := by simp [PolyValue_v, h]
theorem PolyValue_no2 {xs : List Int} {x : Int} (h : inB x (-9) 9 = false) : PolyValue_v xs x = (0, false) := by simp [PolyValue_v, h]
theorem PolyValue_yes {xs : List Int} {x : Int} (h1 : polyB xs = true) (h2 : inB x (-9) 9 = true) : PolyValue_v xs x = (wrap64 (pv x xs), true) := by simp [PolyValue_v, h1, h2]

/-- After k terms: the sum, the power. -/
def VInv (xs : List Int) (x : Int) (k : Nat) (s p : Int) : Prop := s = wrap64 (pv x (xs.take k)) ∧ p = wrap64 (x ^ k)
theorem VInv.start (xs : List Int) (x : Int) : VInv xs x 0 0 1 := ⟨by rw [List.take_zero, pv]; unfold wrap64; omega, by rw [Int.pow_zero]; unfold wrap64; omega⟩
theorem VInv.step {xs : List Int} {x : Int} {k : Nat} {s p : Int} (h : VInv xs x k s p) (hk : k < xs.length) : VInv xs x (k + 1) (wrap64 (s + wrap64 (nth xs k * p))) (wrap64 (p * x)) := by
  refine ⟨?_, ?_⟩
  · rw [h.1, h.2, wrap64_mul', wrap64_add', wrap64_add, pv_take x hk]
  · rw [h.2, wrap64_mul, Int.pow_succ]



end Go.Proofs.Ytjoeanplgikkcaa
