/- Whether a list is a polynomial: the reference's and the program's functions answer the same bool. -/
import Derived.Test.YtnggopbehohjnaaFuncs
namespace Go.Proofs.Ytnggopbehohjnaa
open Go.RowKit

/-- The list is a polynomial: at most 9 coefficients of at most a million, the last one not 0. -/
def polyB (xs : List Int) : Bool := decide (xs.length ≤ 9) && allB xs (-1000000) 1000000 && (decide (xs.length = 0) || nth xs (xs.length - 1) != 0)

theorem polyB_len {xs : List Int} (h : 9 < xs.length) : polyB xs = false := by
  have : decide (xs.length ≤ 9) = false := by simp; omega
  simp [polyB, this]
theorem polyB_all {xs : List Int} (h : allB xs (-1000000) 1000000 = false) : polyB xs = false := by simp [polyB, h]
theorem polyB_nil {xs : List Int} (h : xs.length = 0) : polyB xs = true := by
  obtain rfl := List.eq_nil_of_length_eq_zero h; rfl
theorem polyB_last {xs : List Int} (h1 : xs.length ≤ 9) (h2 : allB xs (-1000000) 1000000 = true) (h3 : 0 < xs.length) : polyB xs = (nth xs (xs.length - 1) != 0) := by
  have e1 : decide (xs.length ≤ 9) = true := decide_eq_true h1
  have e2 : decide (xs.length = 0) = false := decide_eq_false (by omega)
  simp only [polyB, e1, e2, h2, Bool.true_and, Bool.and_true, Bool.false_or]


theorem any_not_allB (xs : List Int) (lo hi : Int) : (xs.any fun n => !inB n lo hi) = !allB xs lo hi := by
  simp [allB, List.not_all_eq_any_not]


/-- What both IsPolynomial functions return. -/
def IsPolynomial_v (xs : List Int) : Bool := polyB xs




end Go.Proofs.Ytnggopbehohjnaa
