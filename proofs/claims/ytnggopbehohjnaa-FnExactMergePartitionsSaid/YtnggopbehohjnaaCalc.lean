/- Sums and differences of fractions. No conditions but bounds. -/
import Derived.Test.YtnggopbehohjnaaMake
import Derived.Test.YtnggopbehohjnaaFlat
import Derived.Deep.RegionHeld3
namespace Go.Proofs.Ytnggopbehohjnaa
open Go.RowKit

theorem mkR_bd (x y : Int) (h : (mkR x y).2 = true) : BdR (mkR x y).1.1 (mkR x y).1.2 := by
  unfold mkR at h ⊢
  split
  · rename_i hg; exact goodR_bd hg
  · rename_i hg; rw [if_neg hg] at h; cases h
def subR (a b : Int × Int) : (Int × Int) × Bool := mkR (a.1 * b.2 - b.1 * a.2) (a.2 * b.2)
def addR (a b : Int × Int) : (Int × Int) × Bool := mkR (a.1 * b.2 + b.1 * a.2) (a.2 * b.2)
theorem BdR.den {n d n' d' : Int} (h : BdR n d) (h' : BdR n' d') : 1 ≤ d * d' ∧ d * d' ≤ 1000000000000000000 := by
  obtain ⟨⟨h1, h2⟩, _, _⟩ := h
  obtain ⟨⟨h3, h4⟩, _, _⟩ := h'
  have a1 : d * d' ≤ 1000000000 * d' := Int.mul_le_mul_of_nonneg_right h2 (by omega)
  have a2 : 1 * d' ≤ d * d' := Int.mul_le_mul_of_nonneg_right h1 (by omega)
  omega




theorem goodR_neg (n d : Int) : goodR (-n) d = goodR n d := by
  have h1 : gcdI (-n) d = gcdI n d := by unfold gcdI; rw [Int.natAbs_neg]
  have h2 : inB (-n) (-1000000000) 1000000000 = inB n (-1000000000) 1000000000 := by
    cases h : inB n (-1000000000) 1000000000
    · cases h' : inB (-n) (-1000000000) 1000000000
      · rfl
      · rw [inB_true] at h'
        have : inB n (-1000000000) 1000000000 = true := inB_true.2 (by omega)
        rw [h] at this; cases this
    · rw [inB_true] at h
      exact inB_true.2 (by omega)
  unfold goodR
  rw [h1, h2]
theorem addR_neg (a b : Int × Int) : addR a (-b.1, b.2) = subR a b := by
  unfold addR subR
  simp only [Int.neg_mul, ← Int.sub_eq_add_neg]


end Go.Proofs.Ytnggopbehohjnaa
