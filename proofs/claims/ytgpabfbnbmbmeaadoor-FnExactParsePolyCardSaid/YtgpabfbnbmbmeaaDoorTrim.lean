/- A list without its zeros at the end, as a polynomial if it is one: the reference's poIf and the program's polynomial. -/
import Derived.Test.YtgpabfbnbmbmeaaDoorPolyIs
namespace Go.Proofs.YtgpabfbnbmbmeaaDoor
open Go.RowKit



/-- The length without the zeros at the end, of the first k. -/
def trimN (xs : List Int) : Nat → Nat
  | 0 => 0
  | k + 1 => if nth xs k = 0 then trimN xs k else k + 1
def trimZ (xs : List Int) : List Int := xs.take (trimN xs xs.length)
theorem trimN_le (xs : List Int) : ∀ k, trimN xs k ≤ k
  | 0 => Nat.le_refl _
  | k + 1 => by
    unfold trimN
    split
    · exact Nat.le_succ_of_le (trimN_le xs k)
    · exact Nat.le_refl _
theorem trimZ_len (xs : List Int) : (trimZ xs).length ≤ xs.length := by
  unfold trimZ; rw [List.length_take]; omega

/-- The first k elements, read through the same address. -/
theorem IntsV.take {w : World} {ao : Option Addr} {n cap : Nat} {xs : List Int} (h : IntsV w (.slice ao n cap) xs) {k : Nat} (hk : k ≤ n) : IntsV w (.slice ao k cap) (xs.take k) := by
  obtain ⟨ao', cap', e, ⟨h1, h2⟩, h3, H⟩ := h
  obtain ⟨rfl, rfl, rfl⟩ := Value.slice.inj e
  have hl : (xs.take k).length = k := by rw [List.length_take]; omega
  refine ⟨ao, cap, by rw [hl], ⟨by omega, h2⟩, h3, fun i hi => ?_⟩
  obtain ⟨b, off, e, hc⟩ := H i (by omega)
  refine ⟨b, off, e, ?_⟩
  rw [hc]
  rw [nth_eq hi, nth_eq (by omega), List.getElem_take]


/-- What poIf and polynomial return: the list without its zeros at the end, if it is a polynomial. -/
def ifPoly (xs : List Int) : List Int × Bool := if polyB (trimZ xs) = true then (trimZ xs, true) else ([], false)
theorem ifPoly_no {xs : List Int} (h : polyB (trimZ xs) = false) : ifPoly xs = ([], false) := by simp [ifPoly, h]
theorem ifPoly_yes {xs : List Int} (h : polyB (trimZ xs) = true) : ifPoly xs = (trimZ xs, true) := by simp [ifPoly, h]
theorem polyB_le9 {xs : List Int} (h : polyB xs = true) : xs.length ≤ 9 := by
  rcases Nat.lt_or_ge 9 xs.length with h1 | h1
  · rw [polyB_len h1] at h; cases h
  · exact h1
theorem ifPoly_len (xs : List Int) : (ifPoly xs).1.length ≤ 9 := by
  cases h : polyB (trimZ xs)
  · rw [ifPoly_no h]; simp
  · rw [ifPoly_yes h]; exact polyB_le9 h



end Go.Proofs.YtgpabfbnbmbmeaaDoor
