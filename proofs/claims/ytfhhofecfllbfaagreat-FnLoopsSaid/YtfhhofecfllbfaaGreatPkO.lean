/- Several texts in one: ChnLaw IvsOwn ShrinkI ShrinkS. No conditions but those that each theorem states. -/
import Derived.Test.YtfhhofecfllbfaaGreatShrS
import Derived.Test.YtfhhofecfllbfaaGreatPkN
import Derived.Test.YtfhhofecfllbfaaGreatPkH
import Derived.Test.YtfhhofecfllbfaaGreatPkJ
import Derived.Test.YtfhhofecfllbfaaGreatPkM
import Derived.Test.YtfhhofecfllbfaaGreatShrI
namespace Go.Proofs.YtfhhofecfllbfaaGreat
open Go.RowKit
theorem GrowI.mono {w : World} {B B' : Nat} {v : Value} {xs : List Quad} (h : GrowI w B v xs) (hB : B' ≤ B) : GrowI w B' v xs := World.ownsRow.mono h hB
theorem GrowI.kept {w w' : World} {B g : Nat} {v : Value} {xs : List Quad} (h : GrowI w B v xs) (hg : w.grownBy w' (some g)) (hgB : g < B) : GrowI w' B v xs :=
 World.ownsRow.kept h hg (.inr (fun e => by have := (World.ownsRow.lt h g e).1; omega))
theorem GrowI.form {w : World} {B : Nat} {v : Value} {xs : List Quad} (h : GrowI w B v xs) (hn : 0 < xs.length) : ∃ g cap, v = .slice (some ⟨g, 0, none⟩) xs.length cap ∧ (B ≤ g ∧ g < w.heap.size) ∧ (xs.length ≤ cap ∧ cap ≤ maxLen) ∧ ∀ i, i < xs.length → w.cell? ⟨g, i * 4, none⟩ = some (.int .i64 (nth4 xs i).1.1) ∧ w.cell? ⟨g, i * 4 + 1, none⟩ = some (.int .i64 (nth4 xs i).1.2) ∧ w.cell? ⟨g, i * 4 + 2, none⟩ = some (.int .i64 (nth4 xs i).2.1) ∧ w.cell? ⟨g, i * 4 + 3, none⟩ = some (.int .i64 (nth4 xs i).2.2) := by
 obtain ⟨g, cap, rfl, hr⟩ := GrowF.form h hn
 obtain ⟨_, _, e, h1, h2, H⟩ := h.read.form
 cases e
 refine ⟨g, cap, rfl, hr.lt, ⟨h1.1, h2⟩, fun i hi => ?_⟩
 obtain ⟨_, _, e, c⟩ := H i hi
 cases e
 simpa using c
set_option maxRecDepth 100000
end Go.Proofs.YtfhhofecfllbfaaGreat
