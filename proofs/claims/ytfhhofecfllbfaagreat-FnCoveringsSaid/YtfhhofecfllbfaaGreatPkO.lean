/- Several texts in one: ChnLaw IvsOwn ShrinkI ShrinkS. No conditions but those that each theorem states. -/
import Derived.Test.YtfhhofecfllbfaaGreatShrS
import Derived.Test.YtfhhofecfllbfaaGreatPkN
import Derived.Test.YtfhhofecfllbfaaGreatPkH
import Derived.Test.YtfhhofecfllbfaaGreatPkJ
import Derived.Test.YtfhhofecfllbfaaGreatPkM
import Derived.Test.YtfhhofecfllbfaaGreatShrI

namespace Go.Proofs.YtfhhofecfllbfaaGreat
open Go.RowKit

end Go.Proofs.YtfhhofecfllbfaaGreat

namespace Go.Proofs.YtfhhofecfllbfaaGreat
open Go.RowKit

theorem GrowI.mono {w : World} {B B' : Nat} {v : Value} {xs : List Quad} (h : GrowI w B v xs) (hB : B' ≤ B) : GrowI w B' v xs := World.ownsRow.mono h hB
theorem GrowI.kept {w w' : World} {B g : Nat} {v : Value} {xs : List Quad} (h : GrowI w B v xs) (hg : w.grownBy w' (some g)) (hgB : g < B) : GrowI w' B v xs :=
  World.ownsRow.kept h hg (.inr (fun e => by have := (World.ownsRow.lt h g e).1; omega))
end Go.Proofs.YtfhhofecfllbfaaGreat

namespace Go.Proofs.YtfhhofecfllbfaaGreat
open Go.RowKit
set_option maxRecDepth 100000

end Go.Proofs.YtfhhofecfllbfaaGreat

namespace Go.Proofs.YtfhhofecfllbfaaGreat
open Go.RowKit
set_option maxRecDepth 100000

theorem new_cells4 {E : Nat} {w W : World} {a b c d : Value} {T : TypeId} (_h : Below E w (W.alloc (.cells #[a, b, c, d] T))) :
    ((W.alloc (.cells #[a, b, c, d] T)).cell? ⟨W.heap.size, 0, none⟩ = some a ∧ (W.alloc (.cells #[a, b, c, d] T)).cell? ⟨W.heap.size, 1, none⟩ = some b ∧ (W.alloc (.cells #[a, b, c, d] T)).cell? ⟨W.heap.size, 2, none⟩ = some c ∧ (W.alloc (.cells #[a, b, c, d] T)).cell? ⟨W.heap.size, 3, none⟩ = some d) ∧
    (W.alloc (.cells #[a, b, c, d] T)).frozen? ⟨W.heap.size, 0, none⟩ = false ∧ (W.alloc (.cells #[a, b, c, d] T)).frozen? ⟨W.heap.size, 1, none⟩ = false ∧ (W.alloc (.cells #[a, b, c, d] T)).frozen? ⟨W.heap.size, 2, none⟩ = false ∧ (W.alloc (.cells #[a, b, c, d] T)).frozen? ⟨W.heap.size, 3, none⟩ = false := by simp [go_sem]
end Go.Proofs.YtfhhofecfllbfaaGreat
