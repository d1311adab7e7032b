/- The program's calculator as one cell that turns true once a result is too large: contracts in that form. No conditions but bounds. -/
import Derived.Test.YtnggopbehohjnaaWidths
import Derived.Deep.AppendLies
namespace Go.Proofs.Ytnggopbehohjnaa
open Go.RowKit

theorem bkeep {w w' : World} (h : Below w.heap.size w w') {a : Addr} {v : Value} (hc : w.cell? a = some v) : w'.cell? a = some v :=
  (h.cell (World.block_lt_of_cell? _ _ hc)).trans hc
theorem bgrow {w w' : World} (h : Below w.heap.size w w') (r : Option Nat) : w.grownBy w' r := ⟨h.os, h.tape, h.output, h.size, fun k hk _ => h.block k hk⟩
theorem grownBy_setCell_some (w : World) (g o : Nat) (u : Value) : w.grownBy (w.setCell ⟨g, o, none⟩ u) (some g) :=
  ⟨rfl, rfl, rfl, by simp [World.setCell], fun k _ hk => Below.heap_setCell _ _ _ _ (fun e => hk (by rw [e]))⟩

/-- The calculator's cell: has a result been too large? -/
def CalcAt (w : World) (g : Nat) (bd : Bool) : Prop := w.cell? ⟨g, 0, none⟩ = some (.bool bd) ∧ w.frozen? ⟨g, 0, none⟩ = false
theorem CalcAt.lt {w : World} {g : Nat} {bd : Bool} (h : CalcAt w g bd) : g < w.heap.size := by
  have := World.block_lt_of_cell? w _ h.1
  exact this
theorem CalcAt.grown {w w' : World} {g : Nat} {bd : Bool} {r : Option Nat} (h : CalcAt w g bd) (hg : w.grownBy w' r) (hr : r ≠ some g) : CalcAt w' g bd :=
  ⟨(hg.cell_far ⟨g, 0, none⟩ h.lt (fun e => hr e.symm)).trans h.1, (hg.frozen_far ⟨g, 0, none⟩ h.lt (fun e => hr e.symm)).trans h.2⟩
theorem CalcAt.below {w w' : World} {g : Nat} {bd : Bool} (h : CalcAt w g bd) (hB : Below w.heap.size w w') : CalcAt w' g bd := h.grown (bgrow hB none) (by simp)
theorem CalcAt.drew {w : World} {g : Nat} {bd : Bool} (h : CalcAt w g bd) : CalcAt w.drew g bd := h
theorem CalcAt.cell {w : World} {g : Nat} {bd : Bool} (h : CalcAt w g bd) : w.cell? ⟨g, 0, none⟩ = some (.bool bd) := h.1

/-- It returns v; the calculator's cell alone may have turned. -/
def RetC (g : Nat) (bd : Bool) (v : Value) (w : World) (e : Ending) (w' : World) : Prop := e = .returned v ∧ w.grownBy w' (some g) ∧ CalcAt w' g bd
theorem RetC.ok {g : Nat} {bd : Bool} {v : Value} {w : World} (h : CalcAt w g bd) {e : Ending} {w' : World} (hr : Ret v w e w') : RetC g bd v w e w' := ⟨hr.1, bgrow hr.2 _, h.below hr.2⟩
theorem RetC.bad {g : Nat} {bd : Bool} {v : Value} {w : World} (h : CalcAt w g bd) {e : Ending} {w' : World} (hr : e = .returned v ∧ Below w.heap.size (w.setCell ⟨g, 0, none⟩ (.bool true)) w') : RetC g true v w e w' := by
  have hs : w.heap.size = (w.setCell ⟨g, 0, none⟩ (.bool true)).heap.size := by simp [World.setCell]
  have hB := hr.2
  rw [hs] at hB
  refine ⟨hr.1, (grownBy_setCell_some w g 0 (.bool true)).trans (bgrow hB _), ?_⟩
  refine CalcAt.below ⟨?_, ?_⟩ hB
  · simp [go_sem, h.1]
  · simp [go_sem, h.2]

/-- A fraction or, where it is too large, 0. -/
def orZ (r : (Int × Int) × Bool) : Int × Int := if r.2 = true then r.1 else (0, 1)


theorem GrowR.kept {w w' : World} {B g : Nat} {v : Value} {xs : List (Int × Int)} (h : GrowR w B v xs) (hg : w.grownBy w' (some g)) (hgB : g < B) : GrowR w' B v xs :=
  World.ownsRow.kept h hg (.inr (fun e => by have := (World.ownsRow.lt h g e).1; omega))

end Go.Proofs.Ytnggopbehohjnaa
