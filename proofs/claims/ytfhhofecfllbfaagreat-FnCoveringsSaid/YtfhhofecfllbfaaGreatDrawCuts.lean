/- Drawn cuts, told loosely: some list of fractions. No conditions but small sizes. -/
import Derived.Test.YtfhhofecfllbfaaGreatDrawR2
import Derived.Test.YtfhhofecfllbfaaGreatPkI
import Derived.Deep.Cut
import Derived.Deep.CutRange
import Derived.Deep.CutBlock
namespace Go.Proofs.YtfhhofecfllbfaaGreat
open Go.RowKit

/-- A slice in a block from B on. -/
def NewB (B : Nat) (v : Value) : Prop := ∀ b off k cap, v = .slice (some ⟨b, off, none⟩) k cap → B ≤ b
theorem NewB.off {B b : Nat} {v : Value} (h : NewB B v) (hb : b < B) : Off b v := fun b' off k cap e => by have := h b' off k cap e; omega
theorem putR_of {l : List (Int × Int)} {x y : Int × Int} (h : y ∈ putR l x) : y ∈ l ∨ y = x := by
  unfold putR at h
  split at h
  · exact .inl h
  · rcases List.mem_append.1 h with q | q
    · exact .inl (List.mem_of_mem_take q)
    · rcases List.mem_cons.1 q with q | q
      · exact .inr q
      · exact .inl (List.mem_of_mem_drop q)
end Go.Proofs.YtfhhofecfllbfaaGreat
