/-
  No cell of these rows narrows 'for every input' (looked for: loops, veiled, ifaces, maps, wideKeys, modest, calm, conditions, laid).
  DERIVED. THE GIVEN ROWS OF THIS SEAT. 3 by the template 'for every input the law returns true; each argument reads behind the call as it read before'; 0 by the template 'total and deterministic' (their statements: YtfhhofecfllbfaaGreatTotals.lean).
  GIVEN WITH THE SEED: the statements are not yours to turn. If you find one false, say at which input.
  Laid BY PROGRAM, IN A SANDBOX (cutbox-rows.mjs): the forced cells as the released guide's own fill.sh prints them over the translation 3a8db91c117aa9cc… (all of the seat's roots in one cut). By AI agents, Wed Nov 11 2026. No macro, syntax, notation, axiom, sorry.
-/
import Derived.Test.YtfhhofecfllbfaaGreatChecked
import GoSem.Claim
import GoSem.ClaimJoined
import GoSem.ClaimMapViews
import Derived.JoinedTies
import Derived.KernelRfl
namespace Go.Proofs.YtfhhofecfllbfaaGreat
/- THE CELL 'sum', in the pinned program and in every row, IS THE sha256 OF THE DUMP (.gsa) THAT YtfhhofecfllbfaaGreatProg.lean LOADS. Nothing in Lean hashes anything: it is a label: what it is worth is what the hold of that sum in a sandbox is worth. -/
noncomputable def Tryz.pinned : Pinned := { name := "ytfhhofecfllbfaagreat", sum := "3a8db91c117aa9cce4e89815962aca1b191e5f151ae2632cb067290984c98250", checked := Tryz.checked }
namespace Rows
def none {H : Type} : Left H := { results := [], args := [] }

/-- 'laws.FnExactLoopFractions': WHATEVER THE INPUT: true; the input reads as it did. -/
def fnExactLoopFractionsSpec : ChangeSpec := { name := "fnExactLoopFractions", fn := fun _ => fun
  | [d1, d2] => { results := [.lit (.bool true)], args := [d1, d2] }
  | _ => none }
def fnExactLoopFractionsRow : OpenClaim := { program := "ytfhhofecfllbfaagreat", sum := "3a8db91c117aa9cce4e89815962aca1b191e5f151ae2632cb067290984c98250", func := "loop.example/g01003/laws.FnExactLoopFractions", spec := "fnExactLoopFractions", unfollowed := true, recurses := true, apart := false }
def FnExactLoopFractionsSaid : Prop := fnExactLoopFractionsRow.holds Tryz.pinned (OpenSpec.ofChange fnExactLoopFractionsSpec)

/-- ITS FALSE NEIGHBOUR: 'it returns false'. Refute it at one input. -/
def fnExactLoopFractionsWrong : ChangeSpec := { name := "fnExactLoopFractions", fn := fun _ => fun
  | [d1, d2] => { results := [.lit (.bool false)], args := [d1, d2] }
  | _ => none }
def FnExactLoopFractionsWrongFalsely : Prop := fnExactLoopFractionsRow.holds Tryz.pinned (OpenSpec.ofChange fnExactLoopFractionsWrong)

/-- 'laws.FnCoverings': WHATEVER THE INPUT: true; the input reads as it did. -/
def fnCoveringsSpec : ChangeSpec := { name := "fnCoverings", fn := fun _ => fun
  | [d1, d2] => { results := [.lit (.bool true)], args := [d1, d2] }
  | _ => none }
def fnCoveringsRow : OpenClaim := { program := "ytfhhofecfllbfaagreat", sum := "3a8db91c117aa9cce4e89815962aca1b191e5f151ae2632cb067290984c98250", func := "loop.example/g01003/laws.FnCoverings", spec := "fnCoverings", unfollowed := true, recurses := true, apart := false }
def FnCoveringsSaid : Prop := fnCoveringsRow.holds Tryz.pinned (OpenSpec.ofChange fnCoveringsSpec)

/-- ITS FALSE NEIGHBOUR: 'it returns false'. Refute it at one input. -/
def fnCoveringsWrong : ChangeSpec := { name := "fnCoverings", fn := fun _ => fun
  | [d1, d2] => { results := [.lit (.bool false)], args := [d1, d2] }
  | _ => none }
def FnCoveringsWrongFalsely : Prop := fnCoveringsRow.holds Tryz.pinned (OpenSpec.ofChange fnCoveringsWrong)

/-- 'laws.FnLoops': WHATEVER THE INPUT: true; the input reads as it did. -/
def fnLoopsSpec : ChangeSpec := { name := "fnLoops", fn := fun _ => fun
  | [d1, d2] => { results := [.lit (.bool true)], args := [d1, d2] }
  | _ => none }
def fnLoopsRow : OpenClaim := { program := "ytfhhofecfllbfaagreat", sum := "3a8db91c117aa9cce4e89815962aca1b191e5f151ae2632cb067290984c98250", func := "loop.example/g01003/laws.FnLoops", spec := "fnLoops", unfollowed := true, recurses := true, apart := false }
def FnLoopsSaid : Prop := fnLoopsRow.holds Tryz.pinned (OpenSpec.ofChange fnLoopsSpec)

/-- ITS FALSE NEIGHBOUR: 'it returns false'. Refute it at one input. -/
def fnLoopsWrong : ChangeSpec := { name := "fnLoops", fn := fun _ => fun
  | [d1, d2] => { results := [.lit (.bool false)], args := [d1, d2] }
  | _ => none }
def FnLoopsWrongFalsely : Prop := fnLoopsRow.holds Tryz.pinned (OpenSpec.ofChange fnLoopsWrong)

/- THE SECOND FORM. 'bulk': how many values and letters a reading holds, each counted each time it is reached (what is shared counts as often as it is met; a slice's spare places count too). A statement '..UptoSaid' is the law's where the arguments, and the package variables that the reading takes, are together of bulk at most 1048576: NARROWER than '..Said'. Prove '..Said' where nothing that the law and all that it calls make is longer than what came in: it says more and counts as full. Else prove '..UptoSaid'. A law counts once. -/
mutual
def uptoBulk {H : Type} : DataW H → Nat
  | .lit (.string bytes) => bytes.length + 1
  | .lit _ => 1
  | .nil => 1
  | .ptr d => uptoBulk d + 1
  | .slice elems spare => uptoBulkAll elems + uptoBulkAll spare + 1
  | .agg parts => uptoBulkAll parts + 1
  | .iface _ d => uptoBulk d + 1
  | .map entries => uptoBulkEntries entries + 1
  | .held _ => 1
def uptoBulkAll {H : Type} : List (DataW H) → Nat
  | [] => 0
  | d :: r => uptoBulk d + uptoBulkAll r
def uptoBulkEntries {H : Type} : List (Lit × DataW H) → Nat
  | [] => 0
  | x :: r => uptoBulkEntry x + uptoBulkEntries r
def uptoBulkEntry {H : Type} : Lit × DataW H → Nat
  | (.string bytes, d) => bytes.length + uptoBulk d + 1
  | (_, d) => uptoBulk d + 1
 end
def uptoSmall : (H : Type) → List (DataW H) → Bool := fun _ ds => decide (uptoBulkAll ds ≤ 1048576)
def OpenSpec.upto (s : _root_.Go.ChangeSpec) : _root_.Go.OpenSpec := { _root_.Go.OpenSpec.ofChange s with cond := some uptoSmall }

/-- 'laws.FnExactLoopFractions', WHERE WHAT IT READS IS OF BULK AT MOST 1048576: true; the input reads as it did. -/
def fnExactLoopFractionsUptoRow : OpenClaim := { program := "ytfhhofecfllbfaagreat", sum := "3a8db91c117aa9cce4e89815962aca1b191e5f151ae2632cb067290984c98250", func := "loop.example/g01003/laws.FnExactLoopFractions", spec := "fnExactLoopFractions", unfollowed := true, recurses := true, apart := false, narrowed := true }
def FnExactLoopFractionsUptoSaid : Prop := fnExactLoopFractionsUptoRow.holds Tryz.pinned (OpenSpec.upto fnExactLoopFractionsSpec)

/-- 'laws.FnCoverings', WHERE WHAT IT READS IS OF BULK AT MOST 1048576: true; the input reads as it did. -/
def fnCoveringsUptoRow : OpenClaim := { program := "ytfhhofecfllbfaagreat", sum := "3a8db91c117aa9cce4e89815962aca1b191e5f151ae2632cb067290984c98250", func := "loop.example/g01003/laws.FnCoverings", spec := "fnCoverings", unfollowed := true, recurses := true, apart := false, narrowed := true }
def FnCoveringsUptoSaid : Prop := fnCoveringsUptoRow.holds Tryz.pinned (OpenSpec.upto fnCoveringsSpec)

/-- 'laws.FnLoops', WHERE WHAT IT READS IS OF BULK AT MOST 1048576: true; the input reads as it did. -/
def fnLoopsUptoRow : OpenClaim := { program := "ytfhhofecfllbfaagreat", sum := "3a8db91c117aa9cce4e89815962aca1b191e5f151ae2632cb067290984c98250", func := "loop.example/g01003/laws.FnLoops", spec := "fnLoops", unfollowed := true, recurses := true, apart := false, narrowed := true }
def FnLoopsUptoSaid : Prop := fnLoopsUptoRow.holds Tryz.pinned (OpenSpec.upto fnLoopsSpec)

end Rows
end Go.Proofs.YtfhhofecfllbfaaGreat
