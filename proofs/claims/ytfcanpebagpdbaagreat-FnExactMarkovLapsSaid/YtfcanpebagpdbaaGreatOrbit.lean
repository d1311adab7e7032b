/- The program's orbit. No conditions but valid maps. -/
import Derived.Test.YtfcanpebagpdbaaGreatPkF
import Derived.Test.YtfcanpebagpdbaaGreatOrb
namespace Go.Proofs.YtfcanpebagpdbaaGreat
open Go.RowKit

/-- A row of fractions is not the calculator's block. -/
theorem GrowR.notCalc {w : World} {B g : Nat} {bd : Bool} {v : Value} {xs : List (Int × Int)} (h : GrowR w B v xs) (hx : 0 < xs.length) (hc : CalcAt w g bd) : v.ownBlock ≠ some g := by
  intro e
  have hl : 0 < (flR xs).length := by rw [flR_len]; omega
  have h1 := World.ownsRow.cells h e 0 (.int .i64 (flR xs)[0]) (by simp [hl])
  have e2 : (⟨g, 0, none⟩ : Addr).add 0 = ⟨g, 0, none⟩ := rfl
  rw [e2, hc.1] at h1
  cases h1
theorem GrowR.keptC {w w' : World} {B g : Nat} {bd : Bool} {v : Value} {xs : List (Int × Int)} (h : GrowR w B v xs) (hx : 0 < xs.length) (hc : CalcAt w g bd) (hg : w.grownBy w' (some g)) : GrowR w' B v xs :=
  World.ownsRow.kept h hg (.inr (h.notCalc hx hc))
theorem GrowR.setB {w : World} {B b o : Nat} {v : Value} {xs : List (Int × Int)} (h : GrowR w B v xs) (hb : b < B) (u : Value) : GrowR (w.setCell ⟨b, o, none⟩ u) B v xs :=
  World.ownsRow.kept h (grownBy_setCell_some w b o u) (.inr (fun e => by have := (World.ownsRow.lt h b e).1; omega))
theorem GrowR.lit (w : World) (x : Int × Int) : GrowR (w.alloc (.cells #[.int .i64 x.1, .int .i64 x.2] 45)) w.heap.size (.slice (some ⟨w.heap.size, 0, none⟩) 1 1) [x] :=
  World.ownsRow_lit (base := w.heap.size) (e := 45) (size := 2) w #[.int .i64 x.1, .int .i64 x.2] 1 (Nat.le_refl _) (by decide) rfl


end Go.Proofs.YtfcanpebagpdbaaGreat
