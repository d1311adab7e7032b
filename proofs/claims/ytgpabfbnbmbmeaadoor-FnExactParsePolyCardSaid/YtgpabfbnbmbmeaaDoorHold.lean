/- Short words for a walk through a region that draws its order. No conditions. -/
import Derived.Test.YtgpabfbnbmbmeaaDoorRows
import Derived.WalkKit
import Derived.WalkSpells
import Derived.BigQuiet
import Derived.Deep.RegionHeld3
namespace Go.Proofs.YtgpabfbnbmbmeaaDoor
open Go.RowKit

theorem lyA {α : Type} (l : List α) (i : Nat) (a : α) : l.toArray.setIfInBounds i a = (l.set i a).toArray := List.setIfInBounds_toArray ..
theorem lyB {α : Type} (x : α) (l : List α) (a : α) : (x :: l).set 0 a = a :: l := rfl
theorem lyC {α : Type} (x : α) (l : List α) (i : Nat) (a : α) : (x :: l).set (i + 1) a = x :: l.set i a := rfl
section
variable {P : Program} {ops : Array Oper} {Q : Exit → Act → World → Prop} {md : Region.Mode} {S : World → Prop}
/-- A quiet operation is taken. -/
theorem ly_q (i : Nat) {dst : Option Tmp} {op : Op} {ty : TypeId} {pos : String} {aft : Array Edge} {gd : Option (Nat × Bool)} {v : Value} {fuel : Nat} {listed : Array Bool} {a : Act} {w : World}
    (hS : S w) (h : wpAnyH P md ops Q S fuel (listed.setIfInBounds i true) (a.put dst v) w)
    (hi : ops[i]? = some (Oper.mk dst op ty pos aft gd) := by rfl) (hs : Region.noSelect ops = true := by kernel_rfl) (hf : Region.free md ops listed i = true := by kernel_rfl) (hr : (Region.ready md ops listed).contains i = true := by kernel_rfl)
    (hw : Region.wanted (Oper.mk dst op ty pos aft gd) (yielded ops a.tmps) = true := by kernel_rfl)
    (hy : ∀ w, S w → (execOp a.eval (Oper.mk dst op ty pos aft gd)).run P w = .ok (.value v) w := by intro wS hSw; (try dsimp only at hSw); go_simp; all_goals (with_reducible rfl))
    (hQ : ∀ c a w, Q (.panic c) (a.put dst v) w → Q (.panic c) a w := by exact fun _ _ _ h => h) : wpAnyH P md ops Q S (fuel + 1) listed a w :=
  wpAnyH_take hi hs hf hr hQ (Or.inl ⟨hw, hy⟩) hS h
/-- An operation whose guard is off is passed by. -/
theorem ly_off (i : Nat) {dst : Option Tmp} {op : Op} {ty : TypeId} {pos : String} {aft : Array Edge} {gd : Option (Nat × Bool)} {fuel : Nat} {listed : Array Bool} {a : Act} {w : World}
    (hS : S w) (h : wpAnyH P md ops Q S fuel (listed.setIfInBounds i true) (a.put dst undef) w)
    (hi : ops[i]? = some (Oper.mk dst op ty pos aft gd) := by rfl) (hs : Region.noSelect ops = true := by kernel_rfl) (hf : Region.free md ops listed i = true := by kernel_rfl) (hr : (Region.ready md ops listed).contains i = true := by kernel_rfl)
    (hw : Region.wanted (Oper.mk dst op ty pos aft gd) (yielded ops a.tmps) = false := by kernel_rfl)
    (hQ : ∀ c a w, Q (.panic c) (a.put dst undef) w → Q (.panic c) a w := by exact fun _ _ _ h => h) : wpAnyH P md ops Q S (fuel + 1) listed a w :=
  wpAnyH_take hi hs hf hr hQ (Or.inr ⟨hw, rfl⟩) hS h
/-- The one operation that may come up comes up; behind it S is shown anew. -/
theorem ly_a (i : Nat) {dst : Option Tmp} {op : Op} {ty : TypeId} {pos : String} {aft : Array Edge} {gd : Option (Nat × Bool)} {fuel : Nat} {listed : Array Bool} {a : Act} {w : World}
    (h : ∀ K' : Act → World → Prop, Shut (∀ a w, S w → (S w → wpAnyH P md ops Q S fuel (listed.setIfInBounds i true) a w) → K' a w) → Oper.wp P (Oper.mk dst op ty pos aft gd) a w K' Q)
    (hi : ops[i]? = some (Oper.mk dst op ty pos aft gd) := by rfl) (hr : Region.ready md ops listed = [i] := by kernel_rfl)
    (hw : Region.wanted (Oper.mk dst op ty pos aft gd) (yielded ops a.tmps) = true := by kernel_rfl) : wpAnyH P md ops Q S (fuel + 1) listed a w :=
  wpAnyH_ready hr (by simp) (AllReadyH.cons hi (fun K' hK' => by rw [if_pos hw]; exact h K' hK') AllReadyH.nil)
end
end Go.Proofs.YtgpabfbnbmbmeaaDoor
