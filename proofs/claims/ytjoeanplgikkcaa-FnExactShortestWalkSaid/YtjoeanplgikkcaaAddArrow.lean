/- A further arrow: the reference's walk and the program's. -/
import Derived.Test.YtjoeanplgikkcaaArrows
namespace Go.Proofs.Ytjoeanplgikkcaa
open Go.RowKit

def addOk (g : List (List Int)) (x y : Int) : Bool := graphB g && inB x 0 ((g.length : Int) - 1) && inB y 0 ((g.length : Int) - 1) && !(ent g x.toNat y.toNat == 9)
/-- What both AddArrow functions return. -/
def AddArrow_v (g : List (List Int)) (x y : Int) : List (List Int) × Bool :=
  if addOk g x y = true then (tab g.length g.length (upd (ent g) x.toNat y.toNat (ent g x.toNat y.toNat + 1)), true) else ([], false)
theorem AddArrow_no {g : List (List Int)} {x y : Int} (h : addOk g x y = false) : AddArrow_v g x y = ([], false) := by simp [AddArrow_v, h]
theorem AddArrow_yes {g : List (List Int)} {x y : Int} (h : addOk g x y = true) : AddArrow_v g x y = (tab g.length g.length (upd (ent g) x.toNat y.toNat (ent g x.toNat y.toNat + 1)), true) := by simp [AddArrow_v, h]
theorem AddArrow_len (g : List (List Int)) (x y : Int) : szIntSS (AddArrow_v g x y).1 ≤ 1099511627776 := by
  cases h : addOk g x y
  · rw [AddArrow_no h]; exact Nat.zero_le _
  · rw [AddArrow_yes h, sz_tab]
    have hg : graphB g = true := by simp only [addOk, Bool.and_eq_true] at h; exact h.1.1.1
    have h2 := (graphB_sz hg).2
    have : g.length * g.length ≤ 8 * 8 := Nat.mul_le_mul h2 h2
    omega
theorem addOk_of {g : List (List Int)} {x y : Int} (h1 : graphB g = true) (h2 : inB x 0 ((g.length : Int) - 1) = true) (h3 : inB y 0 ((g.length : Int) - 1) = true) : addOk g x y = !(ent g x.toNat y.toNat == 9) := by simp [addOk, h1, h2, h3]


end Go.Proofs.Ytjoeanplgikkcaa
