/-
  No cell of these rows narrows 'for every input' (looked for: loops, veiled, ifaces, maps, wideKeys, modest, calm, conditions, laid).
  DERIVED. THE GIVEN ROWS OF THIS SEAT. 12 by the template 'for every input the law returns true; each argument reads behind the call as it read before'; 0 by the template 'total and deterministic' (their statements: YtnmcmepkfggfnaaTotals.lean).
  GIVEN WITH THE SEED: the statements are not yours to turn. If you find one false, say at which input.
  Laid BY PROGRAM, IN A SANDBOX (cutbox-rows.mjs): the forced cells as the released guide's own fill.sh prints them over the translation 1cb3d507781e73ea… (all of the seat's roots in one cut). By AI agents, Wed Nov 11 2026. No macro, syntax, notation, axiom, sorry.
-/
import Derived.Test.YtnmcmepkfggfnaaChecked
import GoSem.Claim
import GoSem.ClaimJoined
import GoSem.ClaimMapViews
import Derived.JoinedTies
import Derived.KernelRfl
namespace Go.Proofs.Ytnmcmepkfggfnaa
/- THE CELL 'sum', in the pinned program and in every row, IS THE sha256 OF THE DUMP (.gsa) THAT YtnmcmepkfggfnaaProg.lean LOADS. Nothing in Lean hashes anything: it is a label: what it is worth is what the hold of that sum in a sandbox is worth. -/
noncomputable def Try.pinned : Pinned := { name := "ytnmcmepkfggfnaa", sum := "1cb3d507781e73ea8323a6c4e85c5389f61798bf18b1a2a8d1d6fd72092b845e", checked := Try.checked }
namespace Rows
def none {H : Type} : Left H := { results := [], args := [] }

/-- 'laws.FnExactIsGraph': WHATEVER THE INPUT: true; the input reads as it did. -/
def fnExactIsGraphSpec : ChangeSpec := { name := "fnExactIsGraph", fn := fun _ => fun
  | [d] => { results := [.lit (.bool true)], args := [d] }
  | _ => none }
def fnExactIsGraphRow : OpenClaim := { program := "ytnmcmepkfggfnaa", sum := "1cb3d507781e73ea8323a6c4e85c5389f61798bf18b1a2a8d1d6fd72092b845e", func := "loop.example/g01003/laws.FnExactIsGraph", spec := "fnExactIsGraph", unfollowed := true, recurses := true, apart := false }
def FnExactIsGraphSaid : Prop := fnExactIsGraphRow.holds Try.pinned (OpenSpec.ofChange fnExactIsGraphSpec)

/-- ITS FALSE NEIGHBOUR: 'it returns false'. Refute it at one input. -/
def fnExactIsGraphWrong : ChangeSpec := { name := "fnExactIsGraph", fn := fun _ => fun
  | [d] => { results := [.lit (.bool false)], args := [d] }
  | _ => none }
def FnExactIsGraphWrongFalsely : Prop := fnExactIsGraphRow.holds Try.pinned (OpenSpec.ofChange fnExactIsGraphWrong)

/-- 'laws.FnExactCompanionGraph': WHATEVER THE INPUT: true; the input reads as it did. -/
def fnExactCompanionGraphSpec : ChangeSpec := { name := "fnExactCompanionGraph", fn := fun _ => fun
  | [d] => { results := [.lit (.bool true)], args := [d] }
  | _ => none }
def fnExactCompanionGraphRow : OpenClaim := { program := "ytnmcmepkfggfnaa", sum := "1cb3d507781e73ea8323a6c4e85c5389f61798bf18b1a2a8d1d6fd72092b845e", func := "loop.example/g01003/laws.FnExactCompanionGraph", spec := "fnExactCompanionGraph", unfollowed := true, recurses := true, apart := false }
def FnExactCompanionGraphSaid : Prop := fnExactCompanionGraphRow.holds Try.pinned (OpenSpec.ofChange fnExactCompanionGraphSpec)

/-- ITS FALSE NEIGHBOUR: 'it returns false'. Refute it at one input. -/
def fnExactCompanionGraphWrong : ChangeSpec := { name := "fnExactCompanionGraph", fn := fun _ => fun
  | [d] => { results := [.lit (.bool false)], args := [d] }
  | _ => none }
def FnExactCompanionGraphWrongFalsely : Prop := fnExactCompanionGraphRow.holds Try.pinned (OpenSpec.ofChange fnExactCompanionGraphWrong)

/-- 'laws.FnExactTraceOf': WHATEVER THE INPUT: true; the input reads as it did. -/
def fnExactTraceOfSpec : ChangeSpec := { name := "fnExactTraceOf", fn := fun _ => fun
  | [d] => { results := [.lit (.bool true)], args := [d] }
  | _ => none }
def fnExactTraceOfRow : OpenClaim := { program := "ytnmcmepkfggfnaa", sum := "1cb3d507781e73ea8323a6c4e85c5389f61798bf18b1a2a8d1d6fd72092b845e", func := "loop.example/g01003/laws.FnExactTraceOf", spec := "fnExactTraceOf", unfollowed := true, recurses := true, apart := false }
def FnExactTraceOfSaid : Prop := fnExactTraceOfRow.holds Try.pinned (OpenSpec.ofChange fnExactTraceOfSpec)

/-- ITS FALSE NEIGHBOUR: 'it returns false'. Refute it at one input. -/
def fnExactTraceOfWrong : ChangeSpec := { name := "fnExactTraceOf", fn := fun _ => fun
  | [d] => { results := [.lit (.bool false)], args := [d] }
  | _ => none }
def FnExactTraceOfWrongFalsely : Prop := fnExactTraceOfRow.holds Try.pinned (OpenSpec.ofChange fnExactTraceOfWrong)

/-- 'laws.FnExactReverseGraph': WHATEVER THE INPUT: true; the input reads as it did. -/
def fnExactReverseGraphSpec : ChangeSpec := { name := "fnExactReverseGraph", fn := fun _ => fun
  | [d] => { results := [.lit (.bool true)], args := [d] }
  | _ => none }
def fnExactReverseGraphRow : OpenClaim := { program := "ytnmcmepkfggfnaa", sum := "1cb3d507781e73ea8323a6c4e85c5389f61798bf18b1a2a8d1d6fd72092b845e", func := "loop.example/g01003/laws.FnExactReverseGraph", spec := "fnExactReverseGraph", unfollowed := true, recurses := true, apart := false }
def FnExactReverseGraphSaid : Prop := fnExactReverseGraphRow.holds Try.pinned (OpenSpec.ofChange fnExactReverseGraphSpec)

/-- ITS FALSE NEIGHBOUR: 'it returns false'. Refute it at one input. -/
def fnExactReverseGraphWrong : ChangeSpec := { name := "fnExactReverseGraph", fn := fun _ => fun
  | [d] => { results := [.lit (.bool false)], args := [d] }
  | _ => none }
def FnExactReverseGraphWrongFalsely : Prop := fnExactReverseGraphRow.holds Try.pinned (OpenSpec.ofChange fnExactReverseGraphWrong)

/-- 'laws.FnExactIsNilpotent': WHATEVER THE INPUT: true; the input reads as it did. -/
def fnExactIsNilpotentSpec : ChangeSpec := { name := "fnExactIsNilpotent", fn := fun _ => fun
  | [d] => { results := [.lit (.bool true)], args := [d] }
  | _ => none }
def fnExactIsNilpotentRow : OpenClaim := { program := "ytnmcmepkfggfnaa", sum := "1cb3d507781e73ea8323a6c4e85c5389f61798bf18b1a2a8d1d6fd72092b845e", func := "loop.example/g01003/laws.FnExactIsNilpotent", spec := "fnExactIsNilpotent", unfollowed := true, recurses := true, apart := false }
def FnExactIsNilpotentSaid : Prop := fnExactIsNilpotentRow.holds Try.pinned (OpenSpec.ofChange fnExactIsNilpotentSpec)

/-- ITS FALSE NEIGHBOUR: 'it returns false'. Refute it at one input. -/
def fnExactIsNilpotentWrong : ChangeSpec := { name := "fnExactIsNilpotent", fn := fun _ => fun
  | [d] => { results := [.lit (.bool false)], args := [d] }
  | _ => none }
def FnExactIsNilpotentWrongFalsely : Prop := fnExactIsNilpotentRow.holds Try.pinned (OpenSpec.ofChange fnExactIsNilpotentWrong)

/-- 'laws.FnExactAddArrow': WHATEVER THE INPUT: true; the input reads as it did. -/
def fnExactAddArrowSpec : ChangeSpec := { name := "fnExactAddArrow", fn := fun _ => fun
  | [d1, d2, d3] => { results := [.lit (.bool true)], args := [d1, d2, d3] }
  | _ => none }
def fnExactAddArrowRow : OpenClaim := { program := "ytnmcmepkfggfnaa", sum := "1cb3d507781e73ea8323a6c4e85c5389f61798bf18b1a2a8d1d6fd72092b845e", func := "loop.example/g01003/laws.FnExactAddArrow", spec := "fnExactAddArrow", unfollowed := true, recurses := true, apart := false }
def FnExactAddArrowSaid : Prop := fnExactAddArrowRow.holds Try.pinned (OpenSpec.ofChange fnExactAddArrowSpec)

/-- ITS FALSE NEIGHBOUR: 'it returns false'. Refute it at one input. -/
def fnExactAddArrowWrong : ChangeSpec := { name := "fnExactAddArrow", fn := fun _ => fun
  | [d1, d2, d3] => { results := [.lit (.bool false)], args := [d1, d2, d3] }
  | _ => none }
def FnExactAddArrowWrongFalsely : Prop := fnExactAddArrowRow.holds Try.pinned (OpenSpec.ofChange fnExactAddArrowWrong)

/-- 'laws.FnExactSubGraph': WHATEVER THE INPUT: true; the input reads as it did. -/
def fnExactSubGraphSpec : ChangeSpec := { name := "fnExactSubGraph", fn := fun _ => fun
  | [d1, d2] => { results := [.lit (.bool true)], args := [d1, d2] }
  | _ => none }
def fnExactSubGraphRow : OpenClaim := { program := "ytnmcmepkfggfnaa", sum := "1cb3d507781e73ea8323a6c4e85c5389f61798bf18b1a2a8d1d6fd72092b845e", func := "loop.example/g01003/laws.FnExactSubGraph", spec := "fnExactSubGraph", unfollowed := true, recurses := true, apart := false }
def FnExactSubGraphSaid : Prop := fnExactSubGraphRow.holds Try.pinned (OpenSpec.ofChange fnExactSubGraphSpec)

/-- ITS FALSE NEIGHBOUR: 'it returns false'. Refute it at one input. -/
def fnExactSubGraphWrong : ChangeSpec := { name := "fnExactSubGraph", fn := fun _ => fun
  | [d1, d2] => { results := [.lit (.bool false)], args := [d1, d2] }
  | _ => none }
def FnExactSubGraphWrongFalsely : Prop := fnExactSubGraphRow.holds Try.pinned (OpenSpec.ofChange fnExactSubGraphWrong)

/-- 'laws.FnExactWalkCount': WHATEVER THE INPUT: true; the input reads as it did. -/
def fnExactWalkCountSpec : ChangeSpec := { name := "fnExactWalkCount", fn := fun _ => fun
  | [d1, d2, d3, d4] => { results := [.lit (.bool true)], args := [d1, d2, d3, d4] }
  | _ => none }
def fnExactWalkCountRow : OpenClaim := { program := "ytnmcmepkfggfnaa", sum := "1cb3d507781e73ea8323a6c4e85c5389f61798bf18b1a2a8d1d6fd72092b845e", func := "loop.example/g01003/laws.FnExactWalkCount", spec := "fnExactWalkCount", unfollowed := true, recurses := true, apart := false }
def FnExactWalkCountSaid : Prop := fnExactWalkCountRow.holds Try.pinned (OpenSpec.ofChange fnExactWalkCountSpec)

/-- ITS FALSE NEIGHBOUR: 'it returns false'. Refute it at one input. -/
def fnExactWalkCountWrong : ChangeSpec := { name := "fnExactWalkCount", fn := fun _ => fun
  | [d1, d2, d3, d4] => { results := [.lit (.bool false)], args := [d1, d2, d3, d4] }
  | _ => none }
def FnExactWalkCountWrongFalsely : Prop := fnExactWalkCountRow.holds Try.pinned (OpenSpec.ofChange fnExactWalkCountWrong)

/-- 'laws.FnExactClosedWalks': WHATEVER THE INPUT: true; the input reads as it did. -/
def fnExactClosedWalksSpec : ChangeSpec := { name := "fnExactClosedWalks", fn := fun _ => fun
  | [d1, d2] => { results := [.lit (.bool true)], args := [d1, d2] }
  | _ => none }
def fnExactClosedWalksRow : OpenClaim := { program := "ytnmcmepkfggfnaa", sum := "1cb3d507781e73ea8323a6c4e85c5389f61798bf18b1a2a8d1d6fd72092b845e", func := "loop.example/g01003/laws.FnExactClosedWalks", spec := "fnExactClosedWalks", unfollowed := true, recurses := true, apart := false }
def FnExactClosedWalksSaid : Prop := fnExactClosedWalksRow.holds Try.pinned (OpenSpec.ofChange fnExactClosedWalksSpec)

/-- ITS FALSE NEIGHBOUR: 'it returns false'. Refute it at one input. -/
def fnExactClosedWalksWrong : ChangeSpec := { name := "fnExactClosedWalks", fn := fun _ => fun
  | [d1, d2] => { results := [.lit (.bool false)], args := [d1, d2] }
  | _ => none }
def FnExactClosedWalksWrongFalsely : Prop := fnExactClosedWalksRow.holds Try.pinned (OpenSpec.ofChange fnExactClosedWalksWrong)

/-- 'laws.FnExactDeterminantOf': WHATEVER THE INPUT: true; the input reads as it did. -/
def fnExactDeterminantOfSpec : ChangeSpec := { name := "fnExactDeterminantOf", fn := fun _ => fun
  | [d] => { results := [.lit (.bool true)], args := [d] }
  | _ => none }
def fnExactDeterminantOfRow : OpenClaim := { program := "ytnmcmepkfggfnaa", sum := "1cb3d507781e73ea8323a6c4e85c5389f61798bf18b1a2a8d1d6fd72092b845e", func := "loop.example/g01003/laws.FnExactDeterminantOf", spec := "fnExactDeterminantOf", unfollowed := true, recurses := true, apart := false }
def FnExactDeterminantOfSaid : Prop := fnExactDeterminantOfRow.holds Try.pinned (OpenSpec.ofChange fnExactDeterminantOfSpec)

/-- ITS FALSE NEIGHBOUR: 'it returns false'. Refute it at one input. -/
def fnExactDeterminantOfWrong : ChangeSpec := { name := "fnExactDeterminantOf", fn := fun _ => fun
  | [d] => { results := [.lit (.bool false)], args := [d] }
  | _ => none }
def FnExactDeterminantOfWrongFalsely : Prop := fnExactDeterminantOfRow.holds Try.pinned (OpenSpec.ofChange fnExactDeterminantOfWrong)

/-- 'laws.FnExactPowerOf': WHATEVER THE INPUT: true; the input reads as it did. -/
def fnExactPowerOfSpec : ChangeSpec := { name := "fnExactPowerOf", fn := fun _ => fun
  | [d1, d2] => { results := [.lit (.bool true)], args := [d1, d2] }
  | _ => none }
def fnExactPowerOfRow : OpenClaim := { program := "ytnmcmepkfggfnaa", sum := "1cb3d507781e73ea8323a6c4e85c5389f61798bf18b1a2a8d1d6fd72092b845e", func := "loop.example/g01003/laws.FnExactPowerOf", spec := "fnExactPowerOf", unfollowed := true, recurses := true, apart := false }
def FnExactPowerOfSaid : Prop := fnExactPowerOfRow.holds Try.pinned (OpenSpec.ofChange fnExactPowerOfSpec)

/-- ITS FALSE NEIGHBOUR: 'it returns false'. Refute it at one input. -/
def fnExactPowerOfWrong : ChangeSpec := { name := "fnExactPowerOf", fn := fun _ => fun
  | [d1, d2] => { results := [.lit (.bool false)], args := [d1, d2] }
  | _ => none }
def FnExactPowerOfWrongFalsely : Prop := fnExactPowerOfRow.holds Try.pinned (OpenSpec.ofChange fnExactPowerOfWrong)

/-- 'laws.FnWalks': WHATEVER THE INPUT: true; the input reads as it did. -/
def fnWalksSpec : ChangeSpec := { name := "fnWalks", fn := fun _ => fun
  | [d1, d2] => { results := [.lit (.bool true)], args := [d1, d2] }
  | _ => none }
def fnWalksRow : OpenClaim := { program := "ytnmcmepkfggfnaa", sum := "1cb3d507781e73ea8323a6c4e85c5389f61798bf18b1a2a8d1d6fd72092b845e", func := "loop.example/g01003/laws.FnWalks", spec := "fnWalks", unfollowed := true, recurses := true, apart := false }
def FnWalksSaid : Prop := fnWalksRow.holds Try.pinned (OpenSpec.ofChange fnWalksSpec)

/-- ITS FALSE NEIGHBOUR: 'it returns false'. Refute it at one input. -/
def fnWalksWrong : ChangeSpec := { name := "fnWalks", fn := fun _ => fun
  | [d1, d2] => { results := [.lit (.bool false)], args := [d1, d2] }
  | _ => none }
def FnWalksWrongFalsely : Prop := fnWalksRow.holds Try.pinned (OpenSpec.ofChange fnWalksWrong)

/- THE SECOND FORM. 'bulk': how many values and letters a reading holds, each counted each time it is reached (what is shared counts as often as it is met; a slice's spare places count too). A statement '..UptoSaid' is the law's where the arguments, and the package variables that the reading takes, are together of bulk at most 1048576: NARROWER than '..Said'. Prove '..Said' where nothing that the law and all that it calls make is longer than what came in: it says more and counts as full. Else prove '..UptoSaid'. A law counts once. -/
mutual
def uptoBulk {H : Type} : DataW H → Nat
  | .lit (.string bytes) => bytes.length + 1
  | .lit _ => 1
  | .nil => 1
  | .ptr d => uptoBulk d + 1
  | .slice elems spare => uptoBulkAll elems + uptoBulkAll spare + 1
  | .agg parts => uptoBulkAll parts + 1
  | .iface _ d => uptoBulk d + 1
  | .map entries => uptoBulkEntries entries + 1
  | .held _ => 1
def uptoBulkAll {H : Type} : List (DataW H) → Nat
  | [] => 0
  | d :: r => uptoBulk d + uptoBulkAll r
def uptoBulkEntries {H : Type} : List (Lit × DataW H) → Nat
  | [] => 0
  | x :: r => uptoBulkEntry x + uptoBulkEntries r
def uptoBulkEntry {H : Type} : Lit × DataW H → Nat
  | (.string bytes, d) => bytes.length + uptoBulk d + 1
  | (_, d) => uptoBulk d + 1
 end
def uptoSmall : (H : Type) → List (DataW H) → Bool := fun _ ds => decide (uptoBulkAll ds ≤ 1048576)
def OpenSpec.upto (s : _root_.Go.ChangeSpec) : _root_.Go.OpenSpec := { _root_.Go.OpenSpec.ofChange s with cond := some uptoSmall }

/-- 'laws.FnExactIsGraph', WHERE WHAT IT READS IS OF BULK AT MOST 1048576: true; the input reads as it did. -/
def fnExactIsGraphUptoRow : OpenClaim := { program := "ytnmcmepkfggfnaa", sum := "1cb3d507781e73ea8323a6c4e85c5389f61798bf18b1a2a8d1d6fd72092b845e", func := "loop.example/g01003/laws.FnExactIsGraph", spec := "fnExactIsGraph", unfollowed := true, recurses := true, apart := false, narrowed := true }
def FnExactIsGraphUptoSaid : Prop := fnExactIsGraphUptoRow.holds Try.pinned (OpenSpec.upto fnExactIsGraphSpec)

/-- 'laws.FnExactCompanionGraph', WHERE WHAT IT READS IS OF BULK AT MOST 1048576: true; the input reads as it did. -/
def fnExactCompanionGraphUptoRow : OpenClaim := { program := "ytnmcmepkfggfnaa", sum := "1cb3d507781e73ea8323a6c4e85c5389f61798bf18b1a2a8d1d6fd72092b845e", func := "loop.example/g01003/laws.FnExactCompanionGraph", spec := "fnExactCompanionGraph", unfollowed := true, recurses := true, apart := false, narrowed := true }
def FnExactCompanionGraphUptoSaid : Prop := fnExactCompanionGraphUptoRow.holds Try.pinned (OpenSpec.upto fnExactCompanionGraphSpec)

/-- 'laws.FnExactTraceOf', WHERE WHAT IT READS IS OF BULK AT MOST 1048576: true; the input reads as it did. -/
def fnExactTraceOfUptoRow : OpenClaim := { program := "ytnmcmepkfggfnaa", sum := "1cb3d507781e73ea8323a6c4e85c5389f61798bf18b1a2a8d1d6fd72092b845e", func := "loop.example/g01003/laws.FnExactTraceOf", spec := "fnExactTraceOf", unfollowed := true, recurses := true, apart := false, narrowed := true }
def FnExactTraceOfUptoSaid : Prop := fnExactTraceOfUptoRow.holds Try.pinned (OpenSpec.upto fnExactTraceOfSpec)

/-- 'laws.FnExactReverseGraph', WHERE WHAT IT READS IS OF BULK AT MOST 1048576: true; the input reads as it did. -/
def fnExactReverseGraphUptoRow : OpenClaim := { program := "ytnmcmepkfggfnaa", sum := "1cb3d507781e73ea8323a6c4e85c5389f61798bf18b1a2a8d1d6fd72092b845e", func := "loop.example/g01003/laws.FnExactReverseGraph", spec := "fnExactReverseGraph", unfollowed := true, recurses := true, apart := false, narrowed := true }
def FnExactReverseGraphUptoSaid : Prop := fnExactReverseGraphUptoRow.holds Try.pinned (OpenSpec.upto fnExactReverseGraphSpec)

/-- 'laws.FnExactIsNilpotent', WHERE WHAT IT READS IS OF BULK AT MOST 1048576: true; the input reads as it did. -/
def fnExactIsNilpotentUptoRow : OpenClaim := { program := "ytnmcmepkfggfnaa", sum := "1cb3d507781e73ea8323a6c4e85c5389f61798bf18b1a2a8d1d6fd72092b845e", func := "loop.example/g01003/laws.FnExactIsNilpotent", spec := "fnExactIsNilpotent", unfollowed := true, recurses := true, apart := false, narrowed := true }
def FnExactIsNilpotentUptoSaid : Prop := fnExactIsNilpotentUptoRow.holds Try.pinned (OpenSpec.upto fnExactIsNilpotentSpec)

/-- 'laws.FnExactAddArrow', WHERE WHAT IT READS IS OF BULK AT MOST 1048576: true; the input reads as it did. -/
def fnExactAddArrowUptoRow : OpenClaim := { program := "ytnmcmepkfggfnaa", sum := "1cb3d507781e73ea8323a6c4e85c5389f61798bf18b1a2a8d1d6fd72092b845e", func := "loop.example/g01003/laws.FnExactAddArrow", spec := "fnExactAddArrow", unfollowed := true, recurses := true, apart := false, narrowed := true }
def FnExactAddArrowUptoSaid : Prop := fnExactAddArrowUptoRow.holds Try.pinned (OpenSpec.upto fnExactAddArrowSpec)

/-- 'laws.FnExactSubGraph', WHERE WHAT IT READS IS OF BULK AT MOST 1048576: true; the input reads as it did. -/
def fnExactSubGraphUptoRow : OpenClaim := { program := "ytnmcmepkfggfnaa", sum := "1cb3d507781e73ea8323a6c4e85c5389f61798bf18b1a2a8d1d6fd72092b845e", func := "loop.example/g01003/laws.FnExactSubGraph", spec := "fnExactSubGraph", unfollowed := true, recurses := true, apart := false, narrowed := true }
def FnExactSubGraphUptoSaid : Prop := fnExactSubGraphUptoRow.holds Try.pinned (OpenSpec.upto fnExactSubGraphSpec)

/-- 'laws.FnExactWalkCount', WHERE WHAT IT READS IS OF BULK AT MOST 1048576: true; the input reads as it did. -/
def fnExactWalkCountUptoRow : OpenClaim := { program := "ytnmcmepkfggfnaa", sum := "1cb3d507781e73ea8323a6c4e85c5389f61798bf18b1a2a8d1d6fd72092b845e", func := "loop.example/g01003/laws.FnExactWalkCount", spec := "fnExactWalkCount", unfollowed := true, recurses := true, apart := false, narrowed := true }
def FnExactWalkCountUptoSaid : Prop := fnExactWalkCountUptoRow.holds Try.pinned (OpenSpec.upto fnExactWalkCountSpec)

/-- 'laws.FnExactClosedWalks', WHERE WHAT IT READS IS OF BULK AT MOST 1048576: true; the input reads as it did. -/
def fnExactClosedWalksUptoRow : OpenClaim := { program := "ytnmcmepkfggfnaa", sum := "1cb3d507781e73ea8323a6c4e85c5389f61798bf18b1a2a8d1d6fd72092b845e", func := "loop.example/g01003/laws.FnExactClosedWalks", spec := "fnExactClosedWalks", unfollowed := true, recurses := true, apart := false, narrowed := true }
def FnExactClosedWalksUptoSaid : Prop := fnExactClosedWalksUptoRow.holds Try.pinned (OpenSpec.upto fnExactClosedWalksSpec)

/-- 'laws.FnExactDeterminantOf', WHERE WHAT IT READS IS OF BULK AT MOST 1048576: true; the input reads as it did. -/
def fnExactDeterminantOfUptoRow : OpenClaim := { program := "ytnmcmepkfggfnaa", sum := "1cb3d507781e73ea8323a6c4e85c5389f61798bf18b1a2a8d1d6fd72092b845e", func := "loop.example/g01003/laws.FnExactDeterminantOf", spec := "fnExactDeterminantOf", unfollowed := true, recurses := true, apart := false, narrowed := true }
def FnExactDeterminantOfUptoSaid : Prop := fnExactDeterminantOfUptoRow.holds Try.pinned (OpenSpec.upto fnExactDeterminantOfSpec)

/-- 'laws.FnExactPowerOf', WHERE WHAT IT READS IS OF BULK AT MOST 1048576: true; the input reads as it did. -/
def fnExactPowerOfUptoRow : OpenClaim := { program := "ytnmcmepkfggfnaa", sum := "1cb3d507781e73ea8323a6c4e85c5389f61798bf18b1a2a8d1d6fd72092b845e", func := "loop.example/g01003/laws.FnExactPowerOf", spec := "fnExactPowerOf", unfollowed := true, recurses := true, apart := false, narrowed := true }
def FnExactPowerOfUptoSaid : Prop := fnExactPowerOfUptoRow.holds Try.pinned (OpenSpec.upto fnExactPowerOfSpec)

/-- 'laws.FnWalks', WHERE WHAT IT READS IS OF BULK AT MOST 1048576: true; the input reads as it did. -/
def fnWalksUptoRow : OpenClaim := { program := "ytnmcmepkfggfnaa", sum := "1cb3d507781e73ea8323a6c4e85c5389f61798bf18b1a2a8d1d6fd72092b845e", func := "loop.example/g01003/laws.FnWalks", spec := "fnWalks", unfollowed := true, recurses := true, apart := false, narrowed := true }
def FnWalksUptoSaid : Prop := fnWalksUptoRow.holds Try.pinned (OpenSpec.upto fnWalksSpec)

end Rows
end Go.Proofs.Ytnmcmepkfggfnaa
