/-
  No cell of these rows narrows 'for every input' (looked for: loops, veiled, ifaces, maps, wideKeys, modest, calm, conditions, laid).
  DERIVED. THE GIVEN ROWS OF THIS SEAT. 12 by the template 'for every input the law returns true; each argument reads behind the call as it read before'; 0 by the template 'total and deterministic' (their statements: YtlhakkkgfejhcaaTotals.lean).
  GIVEN WITH THE SEED: the statements are not yours to turn. If you find one false, say at which input.
  Laid BY PROGRAM, IN A SANDBOX (cutbox-rows.mjs): the forced cells as the released guide's own fill.sh prints them over the translation fd22f7b615fd8ac4… (all of the seat's roots in one cut). By AI agents, Wed Nov 11 2026. No macro, syntax, notation, axiom, sorry.
-/
import Derived.Test.YtlhakkkgfejhcaaChecked
import GoSem.Claim
import GoSem.ClaimJoined
import GoSem.ClaimMapViews
import Derived.JoinedTies
import Derived.KernelRfl
namespace Go.Proofs.Ytlhakkkgfejhcaa
/- THE CELL 'sum', in the pinned program and in every row, IS THE sha256 OF THE DUMP (.gsa) THAT YtlhakkkgfejhcaaProg.lean LOADS. Nothing in Lean hashes anything: it is a label: what it is worth is what the hold of that sum in a sandbox is worth. -/
noncomputable def Try.pinned : Pinned := { name := "ytlhakkkgfejhcaa", sum := "fd22f7b615fd8ac41bf8bf64d962c23e628e1c37b5602c871d71861a3fd80de5", checked := Try.checked }
namespace Rows
def none {H : Type} : Left H := { results := [], args := [] }

/-- 'laws.FnExactIsPolynomial': WHATEVER THE INPUT: true; the input reads as it did. -/
def fnExactIsPolynomialSpec : ChangeSpec := { name := "fnExactIsPolynomial", fn := fun _ => fun
  | [d] => { results := [.lit (.bool true)], args := [d] }
  | _ => none }
def fnExactIsPolynomialRow : OpenClaim := { program := "ytlhakkkgfejhcaa", sum := "fd22f7b615fd8ac41bf8bf64d962c23e628e1c37b5602c871d71861a3fd80de5", func := "loop.example/g01003/laws.FnExactIsPolynomial", spec := "fnExactIsPolynomial", unfollowed := true, recurses := true, apart := false }
def FnExactIsPolynomialSaid : Prop := fnExactIsPolynomialRow.holds Try.pinned (OpenSpec.ofChange fnExactIsPolynomialSpec)

/-- ITS FALSE NEIGHBOUR: 'it returns false'. Refute it at one input. -/
def fnExactIsPolynomialWrong : ChangeSpec := { name := "fnExactIsPolynomial", fn := fun _ => fun
  | [d] => { results := [.lit (.bool false)], args := [d] }
  | _ => none }
def FnExactIsPolynomialWrongFalsely : Prop := fnExactIsPolynomialRow.holds Try.pinned (OpenSpec.ofChange fnExactIsPolynomialWrong)

/-- 'laws.FnExactPolyValue': WHATEVER THE INPUT: true; the input reads as it did. -/
def fnExactPolyValueSpec : ChangeSpec := { name := "fnExactPolyValue", fn := fun _ => fun
  | [d1, d2] => { results := [.lit (.bool true)], args := [d1, d2] }
  | _ => none }
def fnExactPolyValueRow : OpenClaim := { program := "ytlhakkkgfejhcaa", sum := "fd22f7b615fd8ac41bf8bf64d962c23e628e1c37b5602c871d71861a3fd80de5", func := "loop.example/g01003/laws.FnExactPolyValue", spec := "fnExactPolyValue", unfollowed := true, recurses := true, apart := false }
def FnExactPolyValueSaid : Prop := fnExactPolyValueRow.holds Try.pinned (OpenSpec.ofChange fnExactPolyValueSpec)

/-- ITS FALSE NEIGHBOUR: 'it returns false'. Refute it at one input. -/
def fnExactPolyValueWrong : ChangeSpec := { name := "fnExactPolyValue", fn := fun _ => fun
  | [d1, d2] => { results := [.lit (.bool false)], args := [d1, d2] }
  | _ => none }
def FnExactPolyValueWrongFalsely : Prop := fnExactPolyValueRow.holds Try.pinned (OpenSpec.ofChange fnExactPolyValueWrong)

/-- 'laws.FnExactSignChanges': WHATEVER THE INPUT: true; the input reads as it did. -/
def fnExactSignChangesSpec : ChangeSpec := { name := "fnExactSignChanges", fn := fun _ => fun
  | [d] => { results := [.lit (.bool true)], args := [d] }
  | _ => none }
def fnExactSignChangesRow : OpenClaim := { program := "ytlhakkkgfejhcaa", sum := "fd22f7b615fd8ac41bf8bf64d962c23e628e1c37b5602c871d71861a3fd80de5", func := "loop.example/g01003/laws.FnExactSignChanges", spec := "fnExactSignChanges", unfollowed := true, recurses := true, apart := false }
def FnExactSignChangesSaid : Prop := fnExactSignChangesRow.holds Try.pinned (OpenSpec.ofChange fnExactSignChangesSpec)

/-- ITS FALSE NEIGHBOUR: 'it returns false'. Refute it at one input. -/
def fnExactSignChangesWrong : ChangeSpec := { name := "fnExactSignChanges", fn := fun _ => fun
  | [d] => { results := [.lit (.bool false)], args := [d] }
  | _ => none }
def FnExactSignChangesWrongFalsely : Prop := fnExactSignChangesRow.holds Try.pinned (OpenSpec.ofChange fnExactSignChangesWrong)

/-- 'laws.FnExactEulerProduct': WHATEVER THE INPUT: true; the input reads as it did. -/
def fnExactEulerProductSpec : ChangeSpec := { name := "fnExactEulerProduct", fn := fun _ => fun
  | [d] => { results := [.lit (.bool true)], args := [d] }
  | _ => none }
def fnExactEulerProductRow : OpenClaim := { program := "ytlhakkkgfejhcaa", sum := "fd22f7b615fd8ac41bf8bf64d962c23e628e1c37b5602c871d71861a3fd80de5", func := "loop.example/g01003/laws.FnExactEulerProduct", spec := "fnExactEulerProduct", unfollowed := true, recurses := true, apart := false }
def FnExactEulerProductSaid : Prop := fnExactEulerProductRow.holds Try.pinned (OpenSpec.ofChange fnExactEulerProductSpec)

/-- ITS FALSE NEIGHBOUR: 'it returns false'. Refute it at one input. -/
def fnExactEulerProductWrong : ChangeSpec := { name := "fnExactEulerProduct", fn := fun _ => fun
  | [d] => { results := [.lit (.bool false)], args := [d] }
  | _ => none }
def FnExactEulerProductWrongFalsely : Prop := fnExactEulerProductRow.holds Try.pinned (OpenSpec.ofChange fnExactEulerProductWrong)

/-- 'laws.FnExactPowerSums': WHATEVER THE INPUT: true; the input reads as it did. -/
def fnExactPowerSumsSpec : ChangeSpec := { name := "fnExactPowerSums", fn := fun _ => fun
  | [d1, d2] => { results := [.lit (.bool true)], args := [d1, d2] }
  | _ => none }
def fnExactPowerSumsRow : OpenClaim := { program := "ytlhakkkgfejhcaa", sum := "fd22f7b615fd8ac41bf8bf64d962c23e628e1c37b5602c871d71861a3fd80de5", func := "loop.example/g01003/laws.FnExactPowerSums", spec := "fnExactPowerSums", unfollowed := true, recurses := true, apart := false }
def FnExactPowerSumsSaid : Prop := fnExactPowerSumsRow.holds Try.pinned (OpenSpec.ofChange fnExactPowerSumsSpec)

/-- ITS FALSE NEIGHBOUR: 'it returns false'. Refute it at one input. -/
def fnExactPowerSumsWrong : ChangeSpec := { name := "fnExactPowerSums", fn := fun _ => fun
  | [d1, d2] => { results := [.lit (.bool false)], args := [d1, d2] }
  | _ => none }
def FnExactPowerSumsWrongFalsely : Prop := fnExactPowerSumsRow.holds Try.pinned (OpenSpec.ofChange fnExactPowerSumsWrong)

/-- 'laws.FnExactDerivePoly': WHATEVER THE INPUT: true; the input reads as it did. -/
def fnExactDerivePolySpec : ChangeSpec := { name := "fnExactDerivePoly", fn := fun _ => fun
  | [d] => { results := [.lit (.bool true)], args := [d] }
  | _ => none }
def fnExactDerivePolyRow : OpenClaim := { program := "ytlhakkkgfejhcaa", sum := "fd22f7b615fd8ac41bf8bf64d962c23e628e1c37b5602c871d71861a3fd80de5", func := "loop.example/g01003/laws.FnExactDerivePoly", spec := "fnExactDerivePoly", unfollowed := true, recurses := true, apart := false }
def FnExactDerivePolySaid : Prop := fnExactDerivePolyRow.holds Try.pinned (OpenSpec.ofChange fnExactDerivePolySpec)

/-- ITS FALSE NEIGHBOUR: 'it returns false'. Refute it at one input. -/
def fnExactDerivePolyWrong : ChangeSpec := { name := "fnExactDerivePoly", fn := fun _ => fun
  | [d] => { results := [.lit (.bool false)], args := [d] }
  | _ => none }
def FnExactDerivePolyWrongFalsely : Prop := fnExactDerivePolyRow.holds Try.pinned (OpenSpec.ofChange fnExactDerivePolyWrong)

/-- 'laws.FnExactAddPolys': WHATEVER THE INPUT: true; the input reads as it did. -/
def fnExactAddPolysSpec : ChangeSpec := { name := "fnExactAddPolys", fn := fun _ => fun
  | [d1, d2] => { results := [.lit (.bool true)], args := [d1, d2] }
  | _ => none }
def fnExactAddPolysRow : OpenClaim := { program := "ytlhakkkgfejhcaa", sum := "fd22f7b615fd8ac41bf8bf64d962c23e628e1c37b5602c871d71861a3fd80de5", func := "loop.example/g01003/laws.FnExactAddPolys", spec := "fnExactAddPolys", unfollowed := true, recurses := true, apart := false }
def FnExactAddPolysSaid : Prop := fnExactAddPolysRow.holds Try.pinned (OpenSpec.ofChange fnExactAddPolysSpec)

/-- ITS FALSE NEIGHBOUR: 'it returns false'. Refute it at one input. -/
def fnExactAddPolysWrong : ChangeSpec := { name := "fnExactAddPolys", fn := fun _ => fun
  | [d1, d2] => { results := [.lit (.bool false)], args := [d1, d2] }
  | _ => none }
def FnExactAddPolysWrongFalsely : Prop := fnExactAddPolysRow.holds Try.pinned (OpenSpec.ofChange fnExactAddPolysWrong)

/-- 'laws.FnExactMultiplyPolys': WHATEVER THE INPUT: true; the input reads as it did. -/
def fnExactMultiplyPolysSpec : ChangeSpec := { name := "fnExactMultiplyPolys", fn := fun _ => fun
  | [d1, d2] => { results := [.lit (.bool true)], args := [d1, d2] }
  | _ => none }
def fnExactMultiplyPolysRow : OpenClaim := { program := "ytlhakkkgfejhcaa", sum := "fd22f7b615fd8ac41bf8bf64d962c23e628e1c37b5602c871d71861a3fd80de5", func := "loop.example/g01003/laws.FnExactMultiplyPolys", spec := "fnExactMultiplyPolys", unfollowed := true, recurses := true, apart := false }
def FnExactMultiplyPolysSaid : Prop := fnExactMultiplyPolysRow.holds Try.pinned (OpenSpec.ofChange fnExactMultiplyPolysSpec)

/-- ITS FALSE NEIGHBOUR: 'it returns false'. Refute it at one input. -/
def fnExactMultiplyPolysWrong : ChangeSpec := { name := "fnExactMultiplyPolys", fn := fun _ => fun
  | [d1, d2] => { results := [.lit (.bool false)], args := [d1, d2] }
  | _ => none }
def FnExactMultiplyPolysWrongFalsely : Prop := fnExactMultiplyPolysRow.holds Try.pinned (OpenSpec.ofChange fnExactMultiplyPolysWrong)

/-- 'laws.FnExactShiftPoly': WHATEVER THE INPUT: true; the input reads as it did. -/
def fnExactShiftPolySpec : ChangeSpec := { name := "fnExactShiftPoly", fn := fun _ => fun
  | [d1, d2] => { results := [.lit (.bool true)], args := [d1, d2] }
  | _ => none }
def fnExactShiftPolyRow : OpenClaim := { program := "ytlhakkkgfejhcaa", sum := "fd22f7b615fd8ac41bf8bf64d962c23e628e1c37b5602c871d71861a3fd80de5", func := "loop.example/g01003/laws.FnExactShiftPoly", spec := "fnExactShiftPoly", unfollowed := true, recurses := true, apart := false }
def FnExactShiftPolySaid : Prop := fnExactShiftPolyRow.holds Try.pinned (OpenSpec.ofChange fnExactShiftPolySpec)

/-- ITS FALSE NEIGHBOUR: 'it returns false'. Refute it at one input. -/
def fnExactShiftPolyWrong : ChangeSpec := { name := "fnExactShiftPoly", fn := fun _ => fun
  | [d1, d2] => { results := [.lit (.bool false)], args := [d1, d2] }
  | _ => none }
def FnExactShiftPolyWrongFalsely : Prop := fnExactShiftPolyRow.holds Try.pinned (OpenSpec.ofChange fnExactShiftPolyWrong)

/-- 'laws.FnExactDivideByMonic': WHATEVER THE INPUT: true; the input reads as it did. -/
def fnExactDivideByMonicSpec : ChangeSpec := { name := "fnExactDivideByMonic", fn := fun _ => fun
  | [d1, d2] => { results := [.lit (.bool true)], args := [d1, d2] }
  | _ => none }
def fnExactDivideByMonicRow : OpenClaim := { program := "ytlhakkkgfejhcaa", sum := "fd22f7b615fd8ac41bf8bf64d962c23e628e1c37b5602c871d71861a3fd80de5", func := "loop.example/g01003/laws.FnExactDivideByMonic", spec := "fnExactDivideByMonic", unfollowed := true, recurses := true, apart := false }
def FnExactDivideByMonicSaid : Prop := fnExactDivideByMonicRow.holds Try.pinned (OpenSpec.ofChange fnExactDivideByMonicSpec)

/-- ITS FALSE NEIGHBOUR: 'it returns false'. Refute it at one input. -/
def fnExactDivideByMonicWrong : ChangeSpec := { name := "fnExactDivideByMonic", fn := fun _ => fun
  | [d1, d2] => { results := [.lit (.bool false)], args := [d1, d2] }
  | _ => none }
def FnExactDivideByMonicWrongFalsely : Prop := fnExactDivideByMonicRow.holds Try.pinned (OpenSpec.ofChange fnExactDivideByMonicWrong)

/-- 'laws.FnExactRootPlaces': WHATEVER THE INPUT: true; the input reads as it did. -/
def fnExactRootPlacesSpec : ChangeSpec := { name := "fnExactRootPlaces", fn := fun _ => fun
  | [d1, d2] => { results := [.lit (.bool true)], args := [d1, d2] }
  | _ => none }
def fnExactRootPlacesRow : OpenClaim := { program := "ytlhakkkgfejhcaa", sum := "fd22f7b615fd8ac41bf8bf64d962c23e628e1c37b5602c871d71861a3fd80de5", func := "loop.example/g01003/laws.FnExactRootPlaces", spec := "fnExactRootPlaces", unfollowed := true, recurses := true, apart := false }
def FnExactRootPlacesSaid : Prop := fnExactRootPlacesRow.holds Try.pinned (OpenSpec.ofChange fnExactRootPlacesSpec)

/-- ITS FALSE NEIGHBOUR: 'it returns false'. Refute it at one input. -/
def fnExactRootPlacesWrong : ChangeSpec := { name := "fnExactRootPlaces", fn := fun _ => fun
  | [d1, d2] => { results := [.lit (.bool false)], args := [d1, d2] }
  | _ => none }
def FnExactRootPlacesWrongFalsely : Prop := fnExactRootPlacesRow.holds Try.pinned (OpenSpec.ofChange fnExactRootPlacesWrong)

/-- 'laws.FnPolynomials': WHATEVER THE INPUT: true; the input reads as it did. -/
def fnPolynomialsSpec : ChangeSpec := { name := "fnPolynomials", fn := fun _ => fun
  | [d1, d2] => { results := [.lit (.bool true)], args := [d1, d2] }
  | _ => none }
def fnPolynomialsRow : OpenClaim := { program := "ytlhakkkgfejhcaa", sum := "fd22f7b615fd8ac41bf8bf64d962c23e628e1c37b5602c871d71861a3fd80de5", func := "loop.example/g01003/laws.FnPolynomials", spec := "fnPolynomials", unfollowed := true, recurses := true, apart := false }
def FnPolynomialsSaid : Prop := fnPolynomialsRow.holds Try.pinned (OpenSpec.ofChange fnPolynomialsSpec)

/-- ITS FALSE NEIGHBOUR: 'it returns false'. Refute it at one input. -/
def fnPolynomialsWrong : ChangeSpec := { name := "fnPolynomials", fn := fun _ => fun
  | [d1, d2] => { results := [.lit (.bool false)], args := [d1, d2] }
  | _ => none }
def FnPolynomialsWrongFalsely : Prop := fnPolynomialsRow.holds Try.pinned (OpenSpec.ofChange fnPolynomialsWrong)

/- THE SECOND FORM. 'bulk': how many values and letters a reading holds, each counted each time it is reached (what is shared counts as often as it is met; a slice's spare places count too). A statement '..UptoSaid' is the law's where the arguments, and the package variables that the reading takes, are together of bulk at most 1048576: NARROWER than '..Said'. Prove '..Said' where nothing that the law and all that it calls make is longer than what came in: it says more and counts as full. Else prove '..UptoSaid'. A law counts once. -/
mutual
def uptoBulk {H : Type} : DataW H → Nat
  | .lit (.string bytes) => bytes.length + 1
  | .lit _ => 1
  | .nil => 1
  | .ptr d => uptoBulk d + 1
  | .slice elems spare => uptoBulkAll elems + uptoBulkAll spare + 1
  | .agg parts => uptoBulkAll parts + 1
  | .iface _ d => uptoBulk d + 1
  | .map entries => uptoBulkEntries entries + 1
  | .held _ => 1
def uptoBulkAll {H : Type} : List (DataW H) → Nat
  | [] => 0
  | d :: r => uptoBulk d + uptoBulkAll r
def uptoBulkEntries {H : Type} : List (Lit × DataW H) → Nat
  | [] => 0
  | x :: r => uptoBulkEntry x + uptoBulkEntries r
def uptoBulkEntry {H : Type} : Lit × DataW H → Nat
  | (.string bytes, d) => bytes.length + uptoBulk d + 1
  | (_, d) => uptoBulk d + 1
 end
def uptoSmall : (H : Type) → List (DataW H) → Bool := fun _ ds => decide (uptoBulkAll ds ≤ 1048576)
def OpenSpec.upto (s : _root_.Go.ChangeSpec) : _root_.Go.OpenSpec := { _root_.Go.OpenSpec.ofChange s with cond := some uptoSmall }

/-- 'laws.FnExactIsPolynomial', WHERE WHAT IT READS IS OF BULK AT MOST 1048576: true; the input reads as it did. -/
def fnExactIsPolynomialUptoRow : OpenClaim := { program := "ytlhakkkgfejhcaa", sum := "fd22f7b615fd8ac41bf8bf64d962c23e628e1c37b5602c871d71861a3fd80de5", func := "loop.example/g01003/laws.FnExactIsPolynomial", spec := "fnExactIsPolynomial", unfollowed := true, recurses := true, apart := false, narrowed := true }
def FnExactIsPolynomialUptoSaid : Prop := fnExactIsPolynomialUptoRow.holds Try.pinned (OpenSpec.upto fnExactIsPolynomialSpec)

/-- 'laws.FnExactPolyValue', WHERE WHAT IT READS IS OF BULK AT MOST 1048576: true; the input reads as it did. -/
def fnExactPolyValueUptoRow : OpenClaim := { program := "ytlhakkkgfejhcaa", sum := "fd22f7b615fd8ac41bf8bf64d962c23e628e1c37b5602c871d71861a3fd80de5", func := "loop.example/g01003/laws.FnExactPolyValue", spec := "fnExactPolyValue", unfollowed := true, recurses := true, apart := false, narrowed := true }
def FnExactPolyValueUptoSaid : Prop := fnExactPolyValueUptoRow.holds Try.pinned (OpenSpec.upto fnExactPolyValueSpec)

/-- 'laws.FnExactSignChanges', WHERE WHAT IT READS IS OF BULK AT MOST 1048576: true; the input reads as it did. -/
def fnExactSignChangesUptoRow : OpenClaim := { program := "ytlhakkkgfejhcaa", sum := "fd22f7b615fd8ac41bf8bf64d962c23e628e1c37b5602c871d71861a3fd80de5", func := "loop.example/g01003/laws.FnExactSignChanges", spec := "fnExactSignChanges", unfollowed := true, recurses := true, apart := false, narrowed := true }
def FnExactSignChangesUptoSaid : Prop := fnExactSignChangesUptoRow.holds Try.pinned (OpenSpec.upto fnExactSignChangesSpec)

/-- 'laws.FnExactEulerProduct', WHERE WHAT IT READS IS OF BULK AT MOST 1048576: true; the input reads as it did. -/
def fnExactEulerProductUptoRow : OpenClaim := { program := "ytlhakkkgfejhcaa", sum := "fd22f7b615fd8ac41bf8bf64d962c23e628e1c37b5602c871d71861a3fd80de5", func := "loop.example/g01003/laws.FnExactEulerProduct", spec := "fnExactEulerProduct", unfollowed := true, recurses := true, apart := false, narrowed := true }
def FnExactEulerProductUptoSaid : Prop := fnExactEulerProductUptoRow.holds Try.pinned (OpenSpec.upto fnExactEulerProductSpec)

/-- 'laws.FnExactPowerSums', WHERE WHAT IT READS IS OF BULK AT MOST 1048576: true; the input reads as it did. -/
def fnExactPowerSumsUptoRow : OpenClaim := { program := "ytlhakkkgfejhcaa", sum := "fd22f7b615fd8ac41bf8bf64d962c23e628e1c37b5602c871d71861a3fd80de5", func := "loop.example/g01003/laws.FnExactPowerSums", spec := "fnExactPowerSums", unfollowed := true, recurses := true, apart := false, narrowed := true }
def FnExactPowerSumsUptoSaid : Prop := fnExactPowerSumsUptoRow.holds Try.pinned (OpenSpec.upto fnExactPowerSumsSpec)

/-- 'laws.FnExactDerivePoly', WHERE WHAT IT READS IS OF BULK AT MOST 1048576: true; the input reads as it did. -/
def fnExactDerivePolyUptoRow : OpenClaim := { program := "ytlhakkkgfejhcaa", sum := "fd22f7b615fd8ac41bf8bf64d962c23e628e1c37b5602c871d71861a3fd80de5", func := "loop.example/g01003/laws.FnExactDerivePoly", spec := "fnExactDerivePoly", unfollowed := true, recurses := true, apart := false, narrowed := true }
def FnExactDerivePolyUptoSaid : Prop := fnExactDerivePolyUptoRow.holds Try.pinned (OpenSpec.upto fnExactDerivePolySpec)

/-- 'laws.FnExactAddPolys', WHERE WHAT IT READS IS OF BULK AT MOST 1048576: true; the input reads as it did. -/
def fnExactAddPolysUptoRow : OpenClaim := { program := "ytlhakkkgfejhcaa", sum := "fd22f7b615fd8ac41bf8bf64d962c23e628e1c37b5602c871d71861a3fd80de5", func := "loop.example/g01003/laws.FnExactAddPolys", spec := "fnExactAddPolys", unfollowed := true, recurses := true, apart := false, narrowed := true }
def FnExactAddPolysUptoSaid : Prop := fnExactAddPolysUptoRow.holds Try.pinned (OpenSpec.upto fnExactAddPolysSpec)

/-- 'laws.FnExactMultiplyPolys', WHERE WHAT IT READS IS OF BULK AT MOST 1048576: true; the input reads as it did. -/
def fnExactMultiplyPolysUptoRow : OpenClaim := { program := "ytlhakkkgfejhcaa", sum := "fd22f7b615fd8ac41bf8bf64d962c23e628e1c37b5602c871d71861a3fd80de5", func := "loop.example/g01003/laws.FnExactMultiplyPolys", spec := "fnExactMultiplyPolys", unfollowed := true, recurses := true, apart := false, narrowed := true }
def FnExactMultiplyPolysUptoSaid : Prop := fnExactMultiplyPolysUptoRow.holds Try.pinned (OpenSpec.upto fnExactMultiplyPolysSpec)

/-- 'laws.FnExactShiftPoly', WHERE WHAT IT READS IS OF BULK AT MOST 1048576: true; the input reads as it did. -/
def fnExactShiftPolyUptoRow : OpenClaim := { program := "ytlhakkkgfejhcaa", sum := "fd22f7b615fd8ac41bf8bf64d962c23e628e1c37b5602c871d71861a3fd80de5", func := "loop.example/g01003/laws.FnExactShiftPoly", spec := "fnExactShiftPoly", unfollowed := true, recurses := true, apart := false, narrowed := true }
def FnExactShiftPolyUptoSaid : Prop := fnExactShiftPolyUptoRow.holds Try.pinned (OpenSpec.upto fnExactShiftPolySpec)

/-- 'laws.FnExactDivideByMonic', WHERE WHAT IT READS IS OF BULK AT MOST 1048576: true; the input reads as it did. -/
def fnExactDivideByMonicUptoRow : OpenClaim := { program := "ytlhakkkgfejhcaa", sum := "fd22f7b615fd8ac41bf8bf64d962c23e628e1c37b5602c871d71861a3fd80de5", func := "loop.example/g01003/laws.FnExactDivideByMonic", spec := "fnExactDivideByMonic", unfollowed := true, recurses := true, apart := false, narrowed := true }
def FnExactDivideByMonicUptoSaid : Prop := fnExactDivideByMonicUptoRow.holds Try.pinned (OpenSpec.upto fnExactDivideByMonicSpec)

/-- 'laws.FnExactRootPlaces', WHERE WHAT IT READS IS OF BULK AT MOST 1048576: true; the input reads as it did. -/
def fnExactRootPlacesUptoRow : OpenClaim := { program := "ytlhakkkgfejhcaa", sum := "fd22f7b615fd8ac41bf8bf64d962c23e628e1c37b5602c871d71861a3fd80de5", func := "loop.example/g01003/laws.FnExactRootPlaces", spec := "fnExactRootPlaces", unfollowed := true, recurses := true, apart := false, narrowed := true }
def FnExactRootPlacesUptoSaid : Prop := fnExactRootPlacesUptoRow.holds Try.pinned (OpenSpec.upto fnExactRootPlacesSpec)

/-- 'laws.FnPolynomials', WHERE WHAT IT READS IS OF BULK AT MOST 1048576: true; the input reads as it did. -/
def fnPolynomialsUptoRow : OpenClaim := { program := "ytlhakkkgfejhcaa", sum := "fd22f7b615fd8ac41bf8bf64d962c23e628e1c37b5602c871d71861a3fd80de5", func := "loop.example/g01003/laws.FnPolynomials", spec := "fnPolynomials", unfollowed := true, recurses := true, apart := false, narrowed := true }
def FnPolynomialsUptoSaid : Prop := fnPolynomialsUptoRow.holds Try.pinned (OpenSpec.upto fnPolynomialsSpec)

end Rows
end Go.Proofs.Ytlhakkkgfejhcaa
