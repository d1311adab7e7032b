/-
  No cell of these rows narrows 'for every input' (looked for: loops, veiled, ifaces, maps, wideKeys, modest, calm, conditions, laid).
  DERIVED. THE GIVEN ROWS OF THIS SEAT. 10 by the template 'for every input the law returns true; each argument reads behind the call as it read before'; 0 by the template 'total and deterministic' (their statements: YtfcanpebagpdbaaTotals.lean).
  GIVEN WITH THE SEED: the statements are not yours to turn. If you find one false, say at which input.
  Laid BY PROGRAM, IN A SANDBOX (cutbox-rows.mjs): the forced cells as the released guide's own fill.sh prints them over the translation f4b2b8f1a7bec4c6… (all of the seat's roots in one cut). By AI agents, Wed Nov 11 2026. No macro, syntax, notation, axiom, sorry.
-/
import Derived.Test.YtfcanpebagpdbaaChecked
import GoSem.Claim
import GoSem.ClaimJoined
import GoSem.ClaimMapViews
import Derived.JoinedTies
import Derived.KernelRfl
namespace Go.Proofs.Ytfcanpebagpdbaa
/- THE CELL 'sum', in the pinned program and in every row, IS THE sha256 OF THE DUMP (.gsa) THAT YtfcanpebagpdbaaProg.lean LOADS. Nothing in Lean hashes anything: it is a label: what it is worth is what the hold of that sum in a sandbox is worth. -/
noncomputable def Try.pinned : Pinned := { name := "ytfcanpebagpdbaa", sum := "f4b2b8f1a7bec4c6721b5ace07b9df460e7c331429667356e1513ea82e0a8cd1", checked := Try.checked }
namespace Rows
def none {H : Type} : Left H := { results := [], args := [] }

/-- 'laws.FnExactRunsThrough': WHATEVER THE INPUT: true; the input reads as it did. -/
def fnExactRunsThroughSpec : ChangeSpec := { name := "fnExactRunsThrough", fn := fun _ => fun
  | [d1, d2, d3] => { results := [.lit (.bool true)], args := [d1, d2, d3] }
  | _ => none }
def fnExactRunsThroughRow : OpenClaim := { program := "ytfcanpebagpdbaa", sum := "f4b2b8f1a7bec4c6721b5ace07b9df460e7c331429667356e1513ea82e0a8cd1", func := "loop.example/g01003/laws.FnExactRunsThrough", spec := "fnExactRunsThrough", unfollowed := true, recurses := true, apart := false }
def FnExactRunsThroughSaid : Prop := fnExactRunsThroughRow.holds Try.pinned (OpenSpec.ofChange fnExactRunsThroughSpec)

/-- ITS FALSE NEIGHBOUR: 'it returns false'. Refute it at one input. -/
def fnExactRunsThroughWrong : ChangeSpec := { name := "fnExactRunsThrough", fn := fun _ => fun
  | [d1, d2, d3] => { results := [.lit (.bool false)], args := [d1, d2, d3] }
  | _ => none }
def FnExactRunsThroughWrongFalsely : Prop := fnExactRunsThroughRow.holds Try.pinned (OpenSpec.ofChange fnExactRunsThroughWrong)

/-- 'laws.FnExactIsHorseshoe': WHATEVER THE INPUT: true; the input reads as it did. -/
def fnExactIsHorseshoeSpec : ChangeSpec := { name := "fnExactIsHorseshoe", fn := fun _ => fun
  | [d1, d2, d3] => { results := [.lit (.bool true)], args := [d1, d2, d3] }
  | _ => none }
def fnExactIsHorseshoeRow : OpenClaim := { program := "ytfcanpebagpdbaa", sum := "f4b2b8f1a7bec4c6721b5ace07b9df460e7c331429667356e1513ea82e0a8cd1", func := "loop.example/g01003/laws.FnExactIsHorseshoe", spec := "fnExactIsHorseshoe", unfollowed := true, recurses := true, apart := false }
def FnExactIsHorseshoeSaid : Prop := fnExactIsHorseshoeRow.holds Try.pinned (OpenSpec.ofChange fnExactIsHorseshoeSpec)

/-- ITS FALSE NEIGHBOUR: 'it returns false'. Refute it at one input. -/
def fnExactIsHorseshoeWrong : ChangeSpec := { name := "fnExactIsHorseshoe", fn := fun _ => fun
  | [d1, d2, d3] => { results := [.lit (.bool false)], args := [d1, d2, d3] }
  | _ => none }
def FnExactIsHorseshoeWrongFalsely : Prop := fnExactIsHorseshoeRow.holds Try.pinned (OpenSpec.ofChange fnExactIsHorseshoeWrong)

/-- 'laws.FnExactStateWalk': WHATEVER THE INPUT: true; the input reads as it did. -/
def fnExactStateWalkSpec : ChangeSpec := { name := "fnExactStateWalk", fn := fun _ => fun
  | [d1, d2, d3, d4] => { results := [.lit (.bool true)], args := [d1, d2, d3, d4] }
  | _ => none }
def fnExactStateWalkRow : OpenClaim := { program := "ytfcanpebagpdbaa", sum := "f4b2b8f1a7bec4c6721b5ace07b9df460e7c331429667356e1513ea82e0a8cd1", func := "loop.example/g01003/laws.FnExactStateWalk", spec := "fnExactStateWalk", unfollowed := true, recurses := true, apart := false }
def FnExactStateWalkSaid : Prop := fnExactStateWalkRow.holds Try.pinned (OpenSpec.ofChange fnExactStateWalkSpec)

/-- ITS FALSE NEIGHBOUR: 'it returns false'. Refute it at one input. -/
def fnExactStateWalkWrong : ChangeSpec := { name := "fnExactStateWalk", fn := fun _ => fun
  | [d1, d2, d3, d4] => { results := [.lit (.bool false)], args := [d1, d2, d3, d4] }
  | _ => none }
def FnExactStateWalkWrongFalsely : Prop := fnExactStateWalkRow.holds Try.pinned (OpenSpec.ofChange fnExactStateWalkWrong)

/-- 'laws.FnExactIsChain': WHATEVER THE INPUT: true; the input reads as it did. -/
def fnExactIsChainSpec : ChangeSpec := { name := "fnExactIsChain", fn := fun _ => fun
  | [d1, d2] => { results := [.lit (.bool true)], args := [d1, d2] }
  | _ => none }
def fnExactIsChainRow : OpenClaim := { program := "ytfcanpebagpdbaa", sum := "f4b2b8f1a7bec4c6721b5ace07b9df460e7c331429667356e1513ea82e0a8cd1", func := "loop.example/g01003/laws.FnExactIsChain", spec := "fnExactIsChain", unfollowed := true, recurses := true, apart := false }
def FnExactIsChainSaid : Prop := fnExactIsChainRow.holds Try.pinned (OpenSpec.ofChange fnExactIsChainSpec)

/-- ITS FALSE NEIGHBOUR: 'it returns false'. Refute it at one input. -/
def fnExactIsChainWrong : ChangeSpec := { name := "fnExactIsChain", fn := fun _ => fun
  | [d1, d2] => { results := [.lit (.bool false)], args := [d1, d2] }
  | _ => none }
def FnExactIsChainWrongFalsely : Prop := fnExactIsChainRow.holds Try.pinned (OpenSpec.ofChange fnExactIsChainWrong)

/-- 'laws.FnExactIsLoopOf': WHATEVER THE INPUT: true; the input reads as it did. -/
def fnExactIsLoopOfSpec : ChangeSpec := { name := "fnExactIsLoopOf", fn := fun _ => fun
  | [d1, d2] => { results := [.lit (.bool true)], args := [d1, d2] }
  | _ => none }
def fnExactIsLoopOfRow : OpenClaim := { program := "ytfcanpebagpdbaa", sum := "f4b2b8f1a7bec4c6721b5ace07b9df460e7c331429667356e1513ea82e0a8cd1", func := "loop.example/g01003/laws.FnExactIsLoopOf", spec := "fnExactIsLoopOf", unfollowed := true, recurses := true, apart := false }
def FnExactIsLoopOfSaid : Prop := fnExactIsLoopOfRow.holds Try.pinned (OpenSpec.ofChange fnExactIsLoopOfSpec)

/-- ITS FALSE NEIGHBOUR: 'it returns false'. Refute it at one input. -/
def fnExactIsLoopOfWrong : ChangeSpec := { name := "fnExactIsLoopOf", fn := fun _ => fun
  | [d1, d2] => { results := [.lit (.bool false)], args := [d1, d2] }
  | _ => none }
def FnExactIsLoopOfWrongFalsely : Prop := fnExactIsLoopOfRow.holds Try.pinned (OpenSpec.ofChange fnExactIsLoopOfWrong)

/-- 'laws.FnExactHasExactPeriod': WHATEVER THE INPUT: true; the input reads as it did. -/
def fnExactHasExactPeriodSpec : ChangeSpec := { name := "fnExactHasExactPeriod", fn := fun _ => fun
  | [d1, d2] => { results := [.lit (.bool true)], args := [d1, d2] }
  | _ => none }
def fnExactHasExactPeriodRow : OpenClaim := { program := "ytfcanpebagpdbaa", sum := "f4b2b8f1a7bec4c6721b5ace07b9df460e7c331429667356e1513ea82e0a8cd1", func := "loop.example/g01003/laws.FnExactHasExactPeriod", spec := "fnExactHasExactPeriod", unfollowed := true, recurses := true, apart := false }
def FnExactHasExactPeriodSaid : Prop := fnExactHasExactPeriodRow.holds Try.pinned (OpenSpec.ofChange fnExactHasExactPeriodSpec)

/-- ITS FALSE NEIGHBOUR: 'it returns false'. Refute it at one input. -/
def fnExactHasExactPeriodWrong : ChangeSpec := { name := "fnExactHasExactPeriod", fn := fun _ => fun
  | [d1, d2] => { results := [.lit (.bool false)], args := [d1, d2] }
  | _ => none }
def FnExactHasExactPeriodWrongFalsely : Prop := fnExactHasExactPeriodRow.holds Try.pinned (OpenSpec.ofChange fnExactHasExactPeriodWrong)

/-- 'laws.FnExactIsLinearMarkov': WHATEVER THE INPUT: true; the input reads as it did. -/
def fnExactIsLinearMarkovSpec : ChangeSpec := { name := "fnExactIsLinearMarkov", fn := fun _ => fun
  | [d1, d2] => { results := [.lit (.bool true)], args := [d1, d2] }
  | _ => none }
def fnExactIsLinearMarkovRow : OpenClaim := { program := "ytfcanpebagpdbaa", sum := "f4b2b8f1a7bec4c6721b5ace07b9df460e7c331429667356e1513ea82e0a8cd1", func := "loop.example/g01003/laws.FnExactIsLinearMarkov", spec := "fnExactIsLinearMarkov", unfollowed := true, recurses := true, apart := false }
def FnExactIsLinearMarkovSaid : Prop := fnExactIsLinearMarkovRow.holds Try.pinned (OpenSpec.ofChange fnExactIsLinearMarkovSpec)

/-- ITS FALSE NEIGHBOUR: 'it returns false'. Refute it at one input. -/
def fnExactIsLinearMarkovWrong : ChangeSpec := { name := "fnExactIsLinearMarkov", fn := fun _ => fun
  | [d1, d2] => { results := [.lit (.bool false)], args := [d1, d2] }
  | _ => none }
def FnExactIsLinearMarkovWrongFalsely : Prop := fnExactIsLinearMarkovRow.holds Try.pinned (OpenSpec.ofChange fnExactIsLinearMarkovWrong)

/-- 'laws.FnExactIsMarkov': WHATEVER THE INPUT: true; the input reads as it did. -/
def fnExactIsMarkovSpec : ChangeSpec := { name := "fnExactIsMarkov", fn := fun _ => fun
  | [d1, d2] => { results := [.lit (.bool true)], args := [d1, d2] }
  | _ => none }
def fnExactIsMarkovRow : OpenClaim := { program := "ytfcanpebagpdbaa", sum := "f4b2b8f1a7bec4c6721b5ace07b9df460e7c331429667356e1513ea82e0a8cd1", func := "loop.example/g01003/laws.FnExactIsMarkov", spec := "fnExactIsMarkov", unfollowed := true, recurses := true, apart := false }
def FnExactIsMarkovSaid : Prop := fnExactIsMarkovRow.holds Try.pinned (OpenSpec.ofChange fnExactIsMarkovSpec)

/-- ITS FALSE NEIGHBOUR: 'it returns false'. Refute it at one input. -/
def fnExactIsMarkovWrong : ChangeSpec := { name := "fnExactIsMarkov", fn := fun _ => fun
  | [d1, d2] => { results := [.lit (.bool false)], args := [d1, d2] }
  | _ => none }
def FnExactIsMarkovWrongFalsely : Prop := fnExactIsMarkovRow.holds Try.pinned (OpenSpec.ofChange fnExactIsMarkovWrong)

/-- 'laws.FnExactChainFaults': WHATEVER THE INPUT: true; the input reads as it did. -/
def fnExactChainFaultsSpec : ChangeSpec := { name := "fnExactChainFaults", fn := fun _ => fun
  | [d1, d2] => { results := [.lit (.bool true)], args := [d1, d2] }
  | _ => none }
def fnExactChainFaultsRow : OpenClaim := { program := "ytfcanpebagpdbaa", sum := "f4b2b8f1a7bec4c6721b5ace07b9df460e7c331429667356e1513ea82e0a8cd1", func := "loop.example/g01003/laws.FnExactChainFaults", spec := "fnExactChainFaults", unfollowed := true, recurses := true, apart := false }
def FnExactChainFaultsSaid : Prop := fnExactChainFaultsRow.holds Try.pinned (OpenSpec.ofChange fnExactChainFaultsSpec)

/-- ITS FALSE NEIGHBOUR: 'it returns false'. Refute it at one input. -/
def fnExactChainFaultsWrong : ChangeSpec := { name := "fnExactChainFaults", fn := fun _ => fun
  | [d1, d2] => { results := [.lit (.bool false)], args := [d1, d2] }
  | _ => none }
def FnExactChainFaultsWrongFalsely : Prop := fnExactChainFaultsRow.holds Try.pinned (OpenSpec.ofChange fnExactChainFaultsWrong)

/-- 'laws.FnExactCoverGraph': WHATEVER THE INPUT: true; the input reads as it did. -/
def fnExactCoverGraphSpec : ChangeSpec := { name := "fnExactCoverGraph", fn := fun _ => fun
  | [d1, d2] => { results := [.lit (.bool true)], args := [d1, d2] }
  | _ => none }
def fnExactCoverGraphRow : OpenClaim := { program := "ytfcanpebagpdbaa", sum := "f4b2b8f1a7bec4c6721b5ace07b9df460e7c331429667356e1513ea82e0a8cd1", func := "loop.example/g01003/laws.FnExactCoverGraph", spec := "fnExactCoverGraph", unfollowed := true, recurses := true, apart := false }
def FnExactCoverGraphSaid : Prop := fnExactCoverGraphRow.holds Try.pinned (OpenSpec.ofChange fnExactCoverGraphSpec)

/-- ITS FALSE NEIGHBOUR: 'it returns false'. Refute it at one input. -/
def fnExactCoverGraphWrong : ChangeSpec := { name := "fnExactCoverGraph", fn := fun _ => fun
  | [d1, d2] => { results := [.lit (.bool false)], args := [d1, d2] }
  | _ => none }
def FnExactCoverGraphWrongFalsely : Prop := fnExactCoverGraphRow.holds Try.pinned (OpenSpec.ofChange fnExactCoverGraphWrong)

/- THE SECOND FORM. 'bulk': how many values and letters a reading holds, each counted each time it is reached (what is shared counts as often as it is met; a slice's spare places count too). A statement '..UptoSaid' is the law's where the arguments, and the package variables that the reading takes, are together of bulk at most 1048576: NARROWER than '..Said'. Prove '..Said' where nothing that the law and all that it calls make is longer than what came in: it says more and counts as full. Else prove '..UptoSaid'. A law counts once. -/
mutual
def uptoBulk {H : Type} : DataW H → Nat
  | .lit (.string bytes) => bytes.length + 1
  | .lit _ => 1
  | .nil => 1
  | .ptr d => uptoBulk d + 1
  | .slice elems spare => uptoBulkAll elems + uptoBulkAll spare + 1
  | .agg parts => uptoBulkAll parts + 1
  | .iface _ d => uptoBulk d + 1
  | .map entries => uptoBulkEntries entries + 1
  | .held _ => 1
def uptoBulkAll {H : Type} : List (DataW H) → Nat
  | [] => 0
  | d :: r => uptoBulk d + uptoBulkAll r
def uptoBulkEntries {H : Type} : List (Lit × DataW H) → Nat
  | [] => 0
  | x :: r => uptoBulkEntry x + uptoBulkEntries r
def uptoBulkEntry {H : Type} : Lit × DataW H → Nat
  | (.string bytes, d) => bytes.length + uptoBulk d + 1
  | (_, d) => uptoBulk d + 1
 end
def uptoSmall : (H : Type) → List (DataW H) → Bool := fun _ ds => decide (uptoBulkAll ds ≤ 1048576)
def OpenSpec.upto (s : _root_.Go.ChangeSpec) : _root_.Go.OpenSpec := { _root_.Go.OpenSpec.ofChange s with cond := some uptoSmall }

/-- 'laws.FnExactRunsThrough', WHERE WHAT IT READS IS OF BULK AT MOST 1048576: true; the input reads as it did. -/
def fnExactRunsThroughUptoRow : OpenClaim := { program := "ytfcanpebagpdbaa", sum := "f4b2b8f1a7bec4c6721b5ace07b9df460e7c331429667356e1513ea82e0a8cd1", func := "loop.example/g01003/laws.FnExactRunsThrough", spec := "fnExactRunsThrough", unfollowed := true, recurses := true, apart := false, narrowed := true }
def FnExactRunsThroughUptoSaid : Prop := fnExactRunsThroughUptoRow.holds Try.pinned (OpenSpec.upto fnExactRunsThroughSpec)

/-- 'laws.FnExactIsHorseshoe', WHERE WHAT IT READS IS OF BULK AT MOST 1048576: true; the input reads as it did. -/
def fnExactIsHorseshoeUptoRow : OpenClaim := { program := "ytfcanpebagpdbaa", sum := "f4b2b8f1a7bec4c6721b5ace07b9df460e7c331429667356e1513ea82e0a8cd1", func := "loop.example/g01003/laws.FnExactIsHorseshoe", spec := "fnExactIsHorseshoe", unfollowed := true, recurses := true, apart := false, narrowed := true }
def FnExactIsHorseshoeUptoSaid : Prop := fnExactIsHorseshoeUptoRow.holds Try.pinned (OpenSpec.upto fnExactIsHorseshoeSpec)

/-- 'laws.FnExactStateWalk', WHERE WHAT IT READS IS OF BULK AT MOST 1048576: true; the input reads as it did. -/
def fnExactStateWalkUptoRow : OpenClaim := { program := "ytfcanpebagpdbaa", sum := "f4b2b8f1a7bec4c6721b5ace07b9df460e7c331429667356e1513ea82e0a8cd1", func := "loop.example/g01003/laws.FnExactStateWalk", spec := "fnExactStateWalk", unfollowed := true, recurses := true, apart := false, narrowed := true }
def FnExactStateWalkUptoSaid : Prop := fnExactStateWalkUptoRow.holds Try.pinned (OpenSpec.upto fnExactStateWalkSpec)

/-- 'laws.FnExactIsChain', WHERE WHAT IT READS IS OF BULK AT MOST 1048576: true; the input reads as it did. -/
def fnExactIsChainUptoRow : OpenClaim := { program := "ytfcanpebagpdbaa", sum := "f4b2b8f1a7bec4c6721b5ace07b9df460e7c331429667356e1513ea82e0a8cd1", func := "loop.example/g01003/laws.FnExactIsChain", spec := "fnExactIsChain", unfollowed := true, recurses := true, apart := false, narrowed := true }
def FnExactIsChainUptoSaid : Prop := fnExactIsChainUptoRow.holds Try.pinned (OpenSpec.upto fnExactIsChainSpec)

/-- 'laws.FnExactIsLoopOf', WHERE WHAT IT READS IS OF BULK AT MOST 1048576: true; the input reads as it did. -/
def fnExactIsLoopOfUptoRow : OpenClaim := { program := "ytfcanpebagpdbaa", sum := "f4b2b8f1a7bec4c6721b5ace07b9df460e7c331429667356e1513ea82e0a8cd1", func := "loop.example/g01003/laws.FnExactIsLoopOf", spec := "fnExactIsLoopOf", unfollowed := true, recurses := true, apart := false, narrowed := true }
def FnExactIsLoopOfUptoSaid : Prop := fnExactIsLoopOfUptoRow.holds Try.pinned (OpenSpec.upto fnExactIsLoopOfSpec)

/-- 'laws.FnExactHasExactPeriod', WHERE WHAT IT READS IS OF BULK AT MOST 1048576: true; the input reads as it did. -/
def fnExactHasExactPeriodUptoRow : OpenClaim := { program := "ytfcanpebagpdbaa", sum := "f4b2b8f1a7bec4c6721b5ace07b9df460e7c331429667356e1513ea82e0a8cd1", func := "loop.example/g01003/laws.FnExactHasExactPeriod", spec := "fnExactHasExactPeriod", unfollowed := true, recurses := true, apart := false, narrowed := true }
def FnExactHasExactPeriodUptoSaid : Prop := fnExactHasExactPeriodUptoRow.holds Try.pinned (OpenSpec.upto fnExactHasExactPeriodSpec)

/-- 'laws.FnExactIsLinearMarkov', WHERE WHAT IT READS IS OF BULK AT MOST 1048576: true; the input reads as it did. -/
def fnExactIsLinearMarkovUptoRow : OpenClaim := { program := "ytfcanpebagpdbaa", sum := "f4b2b8f1a7bec4c6721b5ace07b9df460e7c331429667356e1513ea82e0a8cd1", func := "loop.example/g01003/laws.FnExactIsLinearMarkov", spec := "fnExactIsLinearMarkov", unfollowed := true, recurses := true, apart := false, narrowed := true }
def FnExactIsLinearMarkovUptoSaid : Prop := fnExactIsLinearMarkovUptoRow.holds Try.pinned (OpenSpec.upto fnExactIsLinearMarkovSpec)

/-- 'laws.FnExactIsMarkov', WHERE WHAT IT READS IS OF BULK AT MOST 1048576: true; the input reads as it did. -/
def fnExactIsMarkovUptoRow : OpenClaim := { program := "ytfcanpebagpdbaa", sum := "f4b2b8f1a7bec4c6721b5ace07b9df460e7c331429667356e1513ea82e0a8cd1", func := "loop.example/g01003/laws.FnExactIsMarkov", spec := "fnExactIsMarkov", unfollowed := true, recurses := true, apart := false, narrowed := true }
def FnExactIsMarkovUptoSaid : Prop := fnExactIsMarkovUptoRow.holds Try.pinned (OpenSpec.upto fnExactIsMarkovSpec)

/-- 'laws.FnExactChainFaults', WHERE WHAT IT READS IS OF BULK AT MOST 1048576: true; the input reads as it did. -/
def fnExactChainFaultsUptoRow : OpenClaim := { program := "ytfcanpebagpdbaa", sum := "f4b2b8f1a7bec4c6721b5ace07b9df460e7c331429667356e1513ea82e0a8cd1", func := "loop.example/g01003/laws.FnExactChainFaults", spec := "fnExactChainFaults", unfollowed := true, recurses := true, apart := false, narrowed := true }
def FnExactChainFaultsUptoSaid : Prop := fnExactChainFaultsUptoRow.holds Try.pinned (OpenSpec.upto fnExactChainFaultsSpec)

/-- 'laws.FnExactCoverGraph', WHERE WHAT IT READS IS OF BULK AT MOST 1048576: true; the input reads as it did. -/
def fnExactCoverGraphUptoRow : OpenClaim := { program := "ytfcanpebagpdbaa", sum := "f4b2b8f1a7bec4c6721b5ace07b9df460e7c331429667356e1513ea82e0a8cd1", func := "loop.example/g01003/laws.FnExactCoverGraph", spec := "fnExactCoverGraph", unfollowed := true, recurses := true, apart := false, narrowed := true }
def FnExactCoverGraphUptoSaid : Prop := fnExactCoverGraphUptoRow.holds Try.pinned (OpenSpec.upto fnExactCoverGraphSpec)

end Rows
end Go.Proofs.Ytfcanpebagpdbaa
