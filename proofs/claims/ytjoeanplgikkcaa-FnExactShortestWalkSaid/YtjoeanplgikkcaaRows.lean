/-
  No cell of these rows narrows 'for every input' (looked for: loops, veiled, ifaces, maps, wideKeys, modest, calm, conditions, laid).
  DERIVED. THE GIVEN ROWS OF THIS SEAT. 12 by the template 'for every input the law returns true; each argument reads behind the call as it read before'; 0 by the template 'total and deterministic' (their statements: YtjoeanplgikkcaaTotals.lean).
  GIVEN WITH THE SEED: the statements are not yours to turn. If you find one false, say at which input.
  Laid BY PROGRAM, IN A SANDBOX (cutbox-rows.mjs): the forced cells as the released guide's own fill.sh prints them over the translation 4e8c41224539b8ed… (all of the seat's roots in one cut). By AI agents, Wed Nov 11 2026. No macro, syntax, notation, axiom, sorry.
-/
import Derived.Test.YtjoeanplgikkcaaChecked
import GoSem.Claim
import GoSem.ClaimJoined
import GoSem.ClaimMapViews
import Derived.JoinedTies
import Derived.KernelRfl
namespace Go.Proofs.Ytjoeanplgikkcaa
/- THE CELL 'sum', in the pinned program and in every row, IS THE sha256 OF THE DUMP (.gsa) THAT YtjoeanplgikkcaaProg.lean LOADS. Nothing in Lean hashes anything: it is a label: what it is worth is what the hold of that sum in a sandbox is worth. -/
noncomputable def Try.pinned : Pinned := { name := "ytjoeanplgikkcaa", sum := "4e8c41224539b8ed96dab0b08a2f31c4f44d169960c8d2d333a88a8158d2bfac", checked := Try.checked }
namespace Rows
def none {H : Type} : Left H := { results := [], args := [] }

/-- 'laws.FnExactIsTransitive': WHATEVER THE INPUT: true; the input reads as it did. -/
def fnExactIsTransitiveSpec : ChangeSpec := { name := "fnExactIsTransitive", fn := fun _ => fun
  | [d] => { results := [.lit (.bool true)], args := [d] }
  | _ => none }
def fnExactIsTransitiveRow : OpenClaim := { program := "ytjoeanplgikkcaa", sum := "4e8c41224539b8ed96dab0b08a2f31c4f44d169960c8d2d333a88a8158d2bfac", func := "loop.example/g01003/laws.FnExactIsTransitive", spec := "fnExactIsTransitive", unfollowed := true, recurses := true, apart := false }
def FnExactIsTransitiveSaid : Prop := fnExactIsTransitiveRow.holds Try.pinned (OpenSpec.ofChange fnExactIsTransitiveSpec)

/-- ITS FALSE NEIGHBOUR: 'it returns false'. Refute it at one input. -/
def fnExactIsTransitiveWrong : ChangeSpec := { name := "fnExactIsTransitive", fn := fun _ => fun
  | [d] => { results := [.lit (.bool false)], args := [d] }
  | _ => none }
def FnExactIsTransitiveWrongFalsely : Prop := fnExactIsTransitiveRow.holds Try.pinned (OpenSpec.ofChange fnExactIsTransitiveWrong)

/-- 'laws.FnExactReachOf': WHATEVER THE INPUT: true; the input reads as it did. -/
def fnExactReachOfSpec : ChangeSpec := { name := "fnExactReachOf", fn := fun _ => fun
  | [d1, d2] => { results := [.lit (.bool true)], args := [d1, d2] }
  | _ => none }
def fnExactReachOfRow : OpenClaim := { program := "ytjoeanplgikkcaa", sum := "4e8c41224539b8ed96dab0b08a2f31c4f44d169960c8d2d333a88a8158d2bfac", func := "loop.example/g01003/laws.FnExactReachOf", spec := "fnExactReachOf", unfollowed := true, recurses := true, apart := false }
def FnExactReachOfSaid : Prop := fnExactReachOfRow.holds Try.pinned (OpenSpec.ofChange fnExactReachOfSpec)

/-- ITS FALSE NEIGHBOUR: 'it returns false'. Refute it at one input. -/
def fnExactReachOfWrong : ChangeSpec := { name := "fnExactReachOf", fn := fun _ => fun
  | [d1, d2] => { results := [.lit (.bool false)], args := [d1, d2] }
  | _ => none }
def FnExactReachOfWrongFalsely : Prop := fnExactReachOfRow.holds Try.pinned (OpenSpec.ofChange fnExactReachOfWrong)

/-- 'laws.FnExactShortestWalk': WHATEVER THE INPUT: true; the input reads as it did. -/
def fnExactShortestWalkSpec : ChangeSpec := { name := "fnExactShortestWalk", fn := fun _ => fun
  | [d1, d2, d3] => { results := [.lit (.bool true)], args := [d1, d2, d3] }
  | _ => none }
def fnExactShortestWalkRow : OpenClaim := { program := "ytjoeanplgikkcaa", sum := "4e8c41224539b8ed96dab0b08a2f31c4f44d169960c8d2d333a88a8158d2bfac", func := "loop.example/g01003/laws.FnExactShortestWalk", spec := "fnExactShortestWalk", unfollowed := true, recurses := true, apart := false }
def FnExactShortestWalkSaid : Prop := fnExactShortestWalkRow.holds Try.pinned (OpenSpec.ofChange fnExactShortestWalkSpec)

/-- ITS FALSE NEIGHBOUR: 'it returns false'. Refute it at one input. -/
def fnExactShortestWalkWrong : ChangeSpec := { name := "fnExactShortestWalk", fn := fun _ => fun
  | [d1, d2, d3] => { results := [.lit (.bool false)], args := [d1, d2, d3] }
  | _ => none }
def FnExactShortestWalkWrongFalsely : Prop := fnExactShortestWalkRow.holds Try.pinned (OpenSpec.ofChange fnExactShortestWalkWrong)

/-- 'laws.FnExactStrongParts': WHATEVER THE INPUT: true; the input reads as it did. -/
def fnExactStrongPartsSpec : ChangeSpec := { name := "fnExactStrongParts", fn := fun _ => fun
  | [d] => { results := [.lit (.bool true)], args := [d] }
  | _ => none }
def fnExactStrongPartsRow : OpenClaim := { program := "ytjoeanplgikkcaa", sum := "4e8c41224539b8ed96dab0b08a2f31c4f44d169960c8d2d333a88a8158d2bfac", func := "loop.example/g01003/laws.FnExactStrongParts", spec := "fnExactStrongParts", unfollowed := true, recurses := true, apart := false }
def FnExactStrongPartsSaid : Prop := fnExactStrongPartsRow.holds Try.pinned (OpenSpec.ofChange fnExactStrongPartsSpec)

/-- ITS FALSE NEIGHBOUR: 'it returns false'. Refute it at one input. -/
def fnExactStrongPartsWrong : ChangeSpec := { name := "fnExactStrongParts", fn := fun _ => fun
  | [d] => { results := [.lit (.bool false)], args := [d] }
  | _ => none }
def FnExactStrongPartsWrongFalsely : Prop := fnExactStrongPartsRow.holds Try.pinned (OpenSpec.ofChange fnExactStrongPartsWrong)

/-- 'laws.FnExactGraphPeriod': WHATEVER THE INPUT: true; the input reads as it did. -/
def fnExactGraphPeriodSpec : ChangeSpec := { name := "fnExactGraphPeriod", fn := fun _ => fun
  | [d] => { results := [.lit (.bool true)], args := [d] }
  | _ => none }
def fnExactGraphPeriodRow : OpenClaim := { program := "ytjoeanplgikkcaa", sum := "4e8c41224539b8ed96dab0b08a2f31c4f44d169960c8d2d333a88a8158d2bfac", func := "loop.example/g01003/laws.FnExactGraphPeriod", spec := "fnExactGraphPeriod", unfollowed := true, recurses := true, apart := false }
def FnExactGraphPeriodSaid : Prop := fnExactGraphPeriodRow.holds Try.pinned (OpenSpec.ofChange fnExactGraphPeriodSpec)

/-- ITS FALSE NEIGHBOUR: 'it returns false'. Refute it at one input. -/
def fnExactGraphPeriodWrong : ChangeSpec := { name := "fnExactGraphPeriod", fn := fun _ => fun
  | [d] => { results := [.lit (.bool false)], args := [d] }
  | _ => none }
def FnExactGraphPeriodWrongFalsely : Prop := fnExactGraphPeriodRow.holds Try.pinned (OpenSpec.ofChange fnExactGraphPeriodWrong)

/-- 'laws.FnExactIsPrimitive': WHATEVER THE INPUT: true; the input reads as it did. -/
def fnExactIsPrimitiveSpec : ChangeSpec := { name := "fnExactIsPrimitive", fn := fun _ => fun
  | [d] => { results := [.lit (.bool true)], args := [d] }
  | _ => none }
def fnExactIsPrimitiveRow : OpenClaim := { program := "ytjoeanplgikkcaa", sum := "4e8c41224539b8ed96dab0b08a2f31c4f44d169960c8d2d333a88a8158d2bfac", func := "loop.example/g01003/laws.FnExactIsPrimitive", spec := "fnExactIsPrimitive", unfollowed := true, recurses := true, apart := false }
def FnExactIsPrimitiveSaid : Prop := fnExactIsPrimitiveRow.holds Try.pinned (OpenSpec.ofChange fnExactIsPrimitiveSpec)

/-- ITS FALSE NEIGHBOUR: 'it returns false'. Refute it at one input. -/
def fnExactIsPrimitiveWrong : ChangeSpec := { name := "fnExactIsPrimitive", fn := fun _ => fun
  | [d] => { results := [.lit (.bool false)], args := [d] }
  | _ => none }
def FnExactIsPrimitiveWrongFalsely : Prop := fnExactIsPrimitiveRow.holds Try.pinned (OpenSpec.ofChange fnExactIsPrimitiveWrong)

/-- 'laws.FnGraphParts': WHATEVER THE INPUT: true; the input reads as it did. -/
def fnGraphPartsSpec : ChangeSpec := { name := "fnGraphParts", fn := fun _ => fun
  | [d1, d2] => { results := [.lit (.bool true)], args := [d1, d2] }
  | _ => none }
def fnGraphPartsRow : OpenClaim := { program := "ytjoeanplgikkcaa", sum := "4e8c41224539b8ed96dab0b08a2f31c4f44d169960c8d2d333a88a8158d2bfac", func := "loop.example/g01003/laws.FnGraphParts", spec := "fnGraphParts", unfollowed := true, recurses := true, apart := false }
def FnGraphPartsSaid : Prop := fnGraphPartsRow.holds Try.pinned (OpenSpec.ofChange fnGraphPartsSpec)

/-- ITS FALSE NEIGHBOUR: 'it returns false'. Refute it at one input. -/
def fnGraphPartsWrong : ChangeSpec := { name := "fnGraphParts", fn := fun _ => fun
  | [d1, d2] => { results := [.lit (.bool false)], args := [d1, d2] }
  | _ => none }
def FnGraphPartsWrongFalsely : Prop := fnGraphPartsRow.holds Try.pinned (OpenSpec.ofChange fnGraphPartsWrong)

/-- 'laws.FnExactRootBound': WHATEVER THE INPUT: true; the input reads as it did. -/
def fnExactRootBoundSpec : ChangeSpec := { name := "fnExactRootBound", fn := fun _ => fun
  | [d] => { results := [.lit (.bool true)], args := [d] }
  | _ => none }
def fnExactRootBoundRow : OpenClaim := { program := "ytjoeanplgikkcaa", sum := "4e8c41224539b8ed96dab0b08a2f31c4f44d169960c8d2d333a88a8158d2bfac", func := "loop.example/g01003/laws.FnExactRootBound", spec := "fnExactRootBound", unfollowed := true, recurses := true, apart := false }
def FnExactRootBoundSaid : Prop := fnExactRootBoundRow.holds Try.pinned (OpenSpec.ofChange fnExactRootBoundSpec)

/-- ITS FALSE NEIGHBOUR: 'it returns false'. Refute it at one input. -/
def fnExactRootBoundWrong : ChangeSpec := { name := "fnExactRootBound", fn := fun _ => fun
  | [d] => { results := [.lit (.bool false)], args := [d] }
  | _ => none }
def FnExactRootBoundWrongFalsely : Prop := fnExactRootBoundRow.holds Try.pinned (OpenSpec.ofChange fnExactRootBoundWrong)

/-- 'laws.FnExactSignAt': WHATEVER THE INPUT: true; the input reads as it did. -/
def fnExactSignAtSpec : ChangeSpec := { name := "fnExactSignAt", fn := fun _ => fun
  | [d1, d2] => { results := [.lit (.bool true)], args := [d1, d2] }
  | _ => none }
def fnExactSignAtRow : OpenClaim := { program := "ytjoeanplgikkcaa", sum := "4e8c41224539b8ed96dab0b08a2f31c4f44d169960c8d2d333a88a8158d2bfac", func := "loop.example/g01003/laws.FnExactSignAt", spec := "fnExactSignAt", unfollowed := true, recurses := true, apart := false }
def FnExactSignAtSaid : Prop := fnExactSignAtRow.holds Try.pinned (OpenSpec.ofChange fnExactSignAtSpec)

/-- ITS FALSE NEIGHBOUR: 'it returns false'. Refute it at one input. -/
def fnExactSignAtWrong : ChangeSpec := { name := "fnExactSignAt", fn := fun _ => fun
  | [d1, d2] => { results := [.lit (.bool false)], args := [d1, d2] }
  | _ => none }
def FnExactSignAtWrongFalsely : Prop := fnExactSignAtRow.holds Try.pinned (OpenSpec.ofChange fnExactSignAtWrong)

/-- 'laws.FnExactIsPartition': WHATEVER THE INPUT: true; the input reads as it did. -/
def fnExactIsPartitionSpec : ChangeSpec := { name := "fnExactIsPartition", fn := fun _ => fun
  | [d] => { results := [.lit (.bool true)], args := [d] }
  | _ => none }
def fnExactIsPartitionRow : OpenClaim := { program := "ytjoeanplgikkcaa", sum := "4e8c41224539b8ed96dab0b08a2f31c4f44d169960c8d2d333a88a8158d2bfac", func := "loop.example/g01003/laws.FnExactIsPartition", spec := "fnExactIsPartition", unfollowed := true, recurses := true, apart := false }
def FnExactIsPartitionSaid : Prop := fnExactIsPartitionRow.holds Try.pinned (OpenSpec.ofChange fnExactIsPartitionSpec)

/-- ITS FALSE NEIGHBOUR: 'it returns false'. Refute it at one input. -/
def fnExactIsPartitionWrong : ChangeSpec := { name := "fnExactIsPartition", fn := fun _ => fun
  | [d] => { results := [.lit (.bool false)], args := [d] }
  | _ => none }
def FnExactIsPartitionWrongFalsely : Prop := fnExactIsPartitionRow.holds Try.pinned (OpenSpec.ofChange fnExactIsPartitionWrong)

/-- 'laws.FnExactStatesOf': WHATEVER THE INPUT: true; the input reads as it did. -/
def fnExactStatesOfSpec : ChangeSpec := { name := "fnExactStatesOf", fn := fun _ => fun
  | [d1, d2] => { results := [.lit (.bool true)], args := [d1, d2] }
  | _ => none }
def fnExactStatesOfRow : OpenClaim := { program := "ytjoeanplgikkcaa", sum := "4e8c41224539b8ed96dab0b08a2f31c4f44d169960c8d2d333a88a8158d2bfac", func := "loop.example/g01003/laws.FnExactStatesOf", spec := "fnExactStatesOf", unfollowed := true, recurses := true, apart := false }
def FnExactStatesOfSaid : Prop := fnExactStatesOfRow.holds Try.pinned (OpenSpec.ofChange fnExactStatesOfSpec)

/-- ITS FALSE NEIGHBOUR: 'it returns false'. Refute it at one input. -/
def fnExactStatesOfWrong : ChangeSpec := { name := "fnExactStatesOf", fn := fun _ => fun
  | [d1, d2] => { results := [.lit (.bool false)], args := [d1, d2] }
  | _ => none }
def FnExactStatesOfWrongFalsely : Prop := fnExactStatesOfRow.holds Try.pinned (OpenSpec.ofChange fnExactStatesOfWrong)

/-- 'laws.FnExactWidthsOf': WHATEVER THE INPUT: true; the input reads as it did. -/
def fnExactWidthsOfSpec : ChangeSpec := { name := "fnExactWidthsOf", fn := fun _ => fun
  | [d] => { results := [.lit (.bool true)], args := [d] }
  | _ => none }
def fnExactWidthsOfRow : OpenClaim := { program := "ytjoeanplgikkcaa", sum := "4e8c41224539b8ed96dab0b08a2f31c4f44d169960c8d2d333a88a8158d2bfac", func := "loop.example/g01003/laws.FnExactWidthsOf", spec := "fnExactWidthsOf", unfollowed := true, recurses := true, apart := false }
def FnExactWidthsOfSaid : Prop := fnExactWidthsOfRow.holds Try.pinned (OpenSpec.ofChange fnExactWidthsOfSpec)

/-- ITS FALSE NEIGHBOUR: 'it returns false'. Refute it at one input. -/
def fnExactWidthsOfWrong : ChangeSpec := { name := "fnExactWidthsOf", fn := fun _ => fun
  | [d] => { results := [.lit (.bool false)], args := [d] }
  | _ => none }
def FnExactWidthsOfWrongFalsely : Prop := fnExactWidthsOfRow.holds Try.pinned (OpenSpec.ofChange fnExactWidthsOfWrong)

/- THE SECOND FORM. 'bulk': how many values and letters a reading holds, each counted each time it is reached (what is shared counts as often as it is met; a slice's spare places count too). A statement '..UptoSaid' is the law's where the arguments, and the package variables that the reading takes, are together of bulk at most 1048576: NARROWER than '..Said'. Prove '..Said' where nothing that the law and all that it calls make is longer than what came in: it says more and counts as full. Else prove '..UptoSaid'. A law counts once. -/
mutual
def uptoBulk {H : Type} : DataW H → Nat
  | .lit (.string bytes) => bytes.length + 1
  | .lit _ => 1
  | .nil => 1
  | .ptr d => uptoBulk d + 1
  | .slice elems spare => uptoBulkAll elems + uptoBulkAll spare + 1
  | .agg parts => uptoBulkAll parts + 1
  | .iface _ d => uptoBulk d + 1
  | .map entries => uptoBulkEntries entries + 1
  | .held _ => 1
def uptoBulkAll {H : Type} : List (DataW H) → Nat
  | [] => 0
  | d :: r => uptoBulk d + uptoBulkAll r
def uptoBulkEntries {H : Type} : List (Lit × DataW H) → Nat
  | [] => 0
  | x :: r => uptoBulkEntry x + uptoBulkEntries r
def uptoBulkEntry {H : Type} : Lit × DataW H → Nat
  | (.string bytes, d) => bytes.length + uptoBulk d + 1
  | (_, d) => uptoBulk d + 1
 end
def uptoSmall : (H : Type) → List (DataW H) → Bool := fun _ ds => decide (uptoBulkAll ds ≤ 1048576)
def OpenSpec.upto (s : _root_.Go.ChangeSpec) : _root_.Go.OpenSpec := { _root_.Go.OpenSpec.ofChange s with cond := some uptoSmall }

/-- 'laws.FnExactIsTransitive', WHERE WHAT IT READS IS OF BULK AT MOST 1048576: true; the input reads as it did. -/
def fnExactIsTransitiveUptoRow : OpenClaim := { program := "ytjoeanplgikkcaa", sum := "4e8c41224539b8ed96dab0b08a2f31c4f44d169960c8d2d333a88a8158d2bfac", func := "loop.example/g01003/laws.FnExactIsTransitive", spec := "fnExactIsTransitive", unfollowed := true, recurses := true, apart := false, narrowed := true }
def FnExactIsTransitiveUptoSaid : Prop := fnExactIsTransitiveUptoRow.holds Try.pinned (OpenSpec.upto fnExactIsTransitiveSpec)

/-- 'laws.FnExactReachOf', WHERE WHAT IT READS IS OF BULK AT MOST 1048576: true; the input reads as it did. -/
def fnExactReachOfUptoRow : OpenClaim := { program := "ytjoeanplgikkcaa", sum := "4e8c41224539b8ed96dab0b08a2f31c4f44d169960c8d2d333a88a8158d2bfac", func := "loop.example/g01003/laws.FnExactReachOf", spec := "fnExactReachOf", unfollowed := true, recurses := true, apart := false, narrowed := true }
def FnExactReachOfUptoSaid : Prop := fnExactReachOfUptoRow.holds Try.pinned (OpenSpec.upto fnExactReachOfSpec)

/-- 'laws.FnExactShortestWalk', WHERE WHAT IT READS IS OF BULK AT MOST 1048576: true; the input reads as it did. -/
def fnExactShortestWalkUptoRow : OpenClaim := { program := "ytjoeanplgikkcaa", sum := "4e8c41224539b8ed96dab0b08a2f31c4f44d169960c8d2d333a88a8158d2bfac", func := "loop.example/g01003/laws.FnExactShortestWalk", spec := "fnExactShortestWalk", unfollowed := true, recurses := true, apart := false, narrowed := true }
def FnExactShortestWalkUptoSaid : Prop := fnExactShortestWalkUptoRow.holds Try.pinned (OpenSpec.upto fnExactShortestWalkSpec)

/-- 'laws.FnExactStrongParts', WHERE WHAT IT READS IS OF BULK AT MOST 1048576: true; the input reads as it did. -/
def fnExactStrongPartsUptoRow : OpenClaim := { program := "ytjoeanplgikkcaa", sum := "4e8c41224539b8ed96dab0b08a2f31c4f44d169960c8d2d333a88a8158d2bfac", func := "loop.example/g01003/laws.FnExactStrongParts", spec := "fnExactStrongParts", unfollowed := true, recurses := true, apart := false, narrowed := true }
def FnExactStrongPartsUptoSaid : Prop := fnExactStrongPartsUptoRow.holds Try.pinned (OpenSpec.upto fnExactStrongPartsSpec)

/-- 'laws.FnExactGraphPeriod', WHERE WHAT IT READS IS OF BULK AT MOST 1048576: true; the input reads as it did. -/
def fnExactGraphPeriodUptoRow : OpenClaim := { program := "ytjoeanplgikkcaa", sum := "4e8c41224539b8ed96dab0b08a2f31c4f44d169960c8d2d333a88a8158d2bfac", func := "loop.example/g01003/laws.FnExactGraphPeriod", spec := "fnExactGraphPeriod", unfollowed := true, recurses := true, apart := false, narrowed := true }
def FnExactGraphPeriodUptoSaid : Prop := fnExactGraphPeriodUptoRow.holds Try.pinned (OpenSpec.upto fnExactGraphPeriodSpec)

/-- 'laws.FnExactIsPrimitive', WHERE WHAT IT READS IS OF BULK AT MOST 1048576: true; the input reads as it did. -/
def fnExactIsPrimitiveUptoRow : OpenClaim := { program := "ytjoeanplgikkcaa", sum := "4e8c41224539b8ed96dab0b08a2f31c4f44d169960c8d2d333a88a8158d2bfac", func := "loop.example/g01003/laws.FnExactIsPrimitive", spec := "fnExactIsPrimitive", unfollowed := true, recurses := true, apart := false, narrowed := true }
def FnExactIsPrimitiveUptoSaid : Prop := fnExactIsPrimitiveUptoRow.holds Try.pinned (OpenSpec.upto fnExactIsPrimitiveSpec)

/-- 'laws.FnGraphParts', WHERE WHAT IT READS IS OF BULK AT MOST 1048576: true; the input reads as it did. -/
def fnGraphPartsUptoRow : OpenClaim := { program := "ytjoeanplgikkcaa", sum := "4e8c41224539b8ed96dab0b08a2f31c4f44d169960c8d2d333a88a8158d2bfac", func := "loop.example/g01003/laws.FnGraphParts", spec := "fnGraphParts", unfollowed := true, recurses := true, apart := false, narrowed := true }
def FnGraphPartsUptoSaid : Prop := fnGraphPartsUptoRow.holds Try.pinned (OpenSpec.upto fnGraphPartsSpec)

/-- 'laws.FnExactRootBound', WHERE WHAT IT READS IS OF BULK AT MOST 1048576: true; the input reads as it did. -/
def fnExactRootBoundUptoRow : OpenClaim := { program := "ytjoeanplgikkcaa", sum := "4e8c41224539b8ed96dab0b08a2f31c4f44d169960c8d2d333a88a8158d2bfac", func := "loop.example/g01003/laws.FnExactRootBound", spec := "fnExactRootBound", unfollowed := true, recurses := true, apart := false, narrowed := true }
def FnExactRootBoundUptoSaid : Prop := fnExactRootBoundUptoRow.holds Try.pinned (OpenSpec.upto fnExactRootBoundSpec)

/-- 'laws.FnExactSignAt', WHERE WHAT IT READS IS OF BULK AT MOST 1048576: true; the input reads as it did. -/
def fnExactSignAtUptoRow : OpenClaim := { program := "ytjoeanplgikkcaa", sum := "4e8c41224539b8ed96dab0b08a2f31c4f44d169960c8d2d333a88a8158d2bfac", func := "loop.example/g01003/laws.FnExactSignAt", spec := "fnExactSignAt", unfollowed := true, recurses := true, apart := false, narrowed := true }
def FnExactSignAtUptoSaid : Prop := fnExactSignAtUptoRow.holds Try.pinned (OpenSpec.upto fnExactSignAtSpec)

/-- 'laws.FnExactIsPartition', WHERE WHAT IT READS IS OF BULK AT MOST 1048576: true; the input reads as it did. -/
def fnExactIsPartitionUptoRow : OpenClaim := { program := "ytjoeanplgikkcaa", sum := "4e8c41224539b8ed96dab0b08a2f31c4f44d169960c8d2d333a88a8158d2bfac", func := "loop.example/g01003/laws.FnExactIsPartition", spec := "fnExactIsPartition", unfollowed := true, recurses := true, apart := false, narrowed := true }
def FnExactIsPartitionUptoSaid : Prop := fnExactIsPartitionUptoRow.holds Try.pinned (OpenSpec.upto fnExactIsPartitionSpec)

/-- 'laws.FnExactStatesOf', WHERE WHAT IT READS IS OF BULK AT MOST 1048576: true; the input reads as it did. -/
def fnExactStatesOfUptoRow : OpenClaim := { program := "ytjoeanplgikkcaa", sum := "4e8c41224539b8ed96dab0b08a2f31c4f44d169960c8d2d333a88a8158d2bfac", func := "loop.example/g01003/laws.FnExactStatesOf", spec := "fnExactStatesOf", unfollowed := true, recurses := true, apart := false, narrowed := true }
def FnExactStatesOfUptoSaid : Prop := fnExactStatesOfUptoRow.holds Try.pinned (OpenSpec.upto fnExactStatesOfSpec)

/-- 'laws.FnExactWidthsOf', WHERE WHAT IT READS IS OF BULK AT MOST 1048576: true; the input reads as it did. -/
def fnExactWidthsOfUptoRow : OpenClaim := { program := "ytjoeanplgikkcaa", sum := "4e8c41224539b8ed96dab0b08a2f31c4f44d169960c8d2d333a88a8158d2bfac", func := "loop.example/g01003/laws.FnExactWidthsOf", spec := "fnExactWidthsOf", unfollowed := true, recurses := true, apart := false, narrowed := true }
def FnExactWidthsOfUptoSaid : Prop := fnExactWidthsOfUptoRow.holds Try.pinned (OpenSpec.upto fnExactWidthsOfSpec)

end Rows
end Go.Proofs.Ytjoeanplgikkcaa
