/- The program's calculator: it remembers whether a result was too large. No conditions but bounds. -/
import Derived.Test.YtgpabfbnbmbmeaaGreatDoorPkA
import Derived.Test.YtgpabfbnbmbmeaaGreatDoorUnits
namespace Go.Proofs.YtgpabfbnbmbmeaaGreatDoor
open Go.RowKit

theorem below_setCell_both {E : Nat} {w w1 : World} (h : Below E w w1) {p : Addr} (hp : p.block < E) (u : Value) : Below E (w.setCell p u) (w1.setCell p u) := by
  refine ⟨h.os, h.tape, h.output, by simpa [World.setCell] using h.size, fun k hk => ?_⟩
  have hb := h.block k hk
  by_cases e : k = p.block
  · subst e
    have hb' := h.block p.block hp
    simp only [World.setCell]
    rw [Array.getElem?_modify, Array.getElem?_modify, if_pos rfl, if_pos rfl, hb']
  · simp only [World.setCell]
    rw [Array.getElem?_modify, Array.getElem?_modify, if_neg (Ne.symm e), if_neg (Ne.symm e), hb]


end Go.Proofs.YtgpabfbnbmbmeaaGreatDoor
