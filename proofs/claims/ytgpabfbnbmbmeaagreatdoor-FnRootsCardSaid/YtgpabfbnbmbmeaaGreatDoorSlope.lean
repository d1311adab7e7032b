/- Slopes and lines: the program's, by its calculator. No conditions but valid points. -/
import Derived.Test.YtgpabfbnbmbmeaaGreatDoorCops
import Derived.Test.YtgpabfbnbmbmeaaGreatDoorIsMap
import Derived.Maps.Range
namespace Go.Proofs.YtgpabfbnbmbmeaaGreatDoor
open Go.RowKit
set_option maxRecDepth 100000

/-- Below block E all but block g reads as before. -/
def SameBut (g E : Nat) (w w' : World) : Prop := ∀ a : Addr, a.block < E → a.block ≠ g → w'.cell? a = w.cell? a
theorem SameBut.grown {g E : Nat} {w w' : World} (h : w.grownBy w' (some g)) (hE : E ≤ w.heap.size) : SameBut g E w w' := fun a ha hg => h.cell_far a (by omega) (fun e => hg (Option.some.inj e))
theorem SameBut.set {g E : Nat} {w w' : World} (h : SameBut g E w w') {b o : Nat} (hb : E ≤ b) (u : Value) : SameBut g E w (w'.setCell ⟨b, o, none⟩ u) := fun a ha hg => by
  have hne : a.block ≠ b := by omega
  have h2 : (w'.setCell ⟨b, o, none⟩ u).cell? a = w'.cell? a := World.cell?_of_block (Below.heap_setCell _ _ _ _ (by simpa using hne))
  rw [h2]; exact h a ha hg
theorem SameBut.keep {g E : Nat} {w w' : World} (h : SameBut g E w w') {b o : Nat} {v : Value} (hc : w.cell? ⟨b, o, none⟩ = some v) (hb : b < E) (hg : b ≠ g) : w'.cell? ⟨b, o, none⟩ = some v := (h ⟨b, o, none⟩ hb hg).trans hc
theorem gdrew {w w' : World} {r : Option Nat} (h : w.grownBy w' r) : w.grownBy w'.drew r := ⟨h.os, h.tape, h.output, h.size, h.block⟩
theorem grow_set {w w' : World} {g : Nat} (h : w.grownBy w' (some g)) {b o : Nat} (hb : w.heap.size ≤ b) (u : Value) : w.grownBy (w'.setCell ⟨b, o, none⟩ u) (some g) :=
  h.andThen (grownBy_setCell_some w' b o u) (fun j hj => .inl (by have := Option.some.inj hj; omega))
theorem CalcAt.set {w : World} {g : Nat} {bd : Bool} (h : CalcAt w g bd) {b o : Nat} (hb : b ≠ g) (u : Value) : CalcAt (w.setCell ⟨b, o, none⟩ u) g bd := h.grown (grownBy_setCell_some w b o u) (fun e => hb (Option.some.inj e))
theorem gfrozen {w w' : World} {r : Option Nat} (h : w.grownBy w' r) {a : Addr} {v : Value} (hc : w.cell? a = some v) (hf : w.frozen? a = false) (hr : r ≠ some a.block) : w'.frozen? a = false :=
  (h.frozen_far a (World.block_lt_of_cell? _ _ hc) (fun e => hr e.symm)).trans hf
theorem gcell {w w' : World} {r : Option Nat} (h : w.grownBy w' r) {a : Addr} {v : Value} (hc : w.cell? a = some v) (hr : r ≠ some a.block) : w'.cell? a = some v :=
  (h.cell_far a (World.block_lt_of_cell? _ _ hc) (fun e => hr e.symm)).trans hc


end Go.Proofs.YtgpabfbnbmbmeaaGreatDoor
