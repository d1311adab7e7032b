/-
  DERIVED. GIVEN WITH THE SEED: THE CARDS: each row of YtgpabfbnbmbmeaaGreatDoorRows.lean that lists a variable, with what it lists TIED to the program's text (the seventh form; the later family's looks); each row that meets fmt, with fmt's text TOLD by the authors' own Lean function (tested against real Go, not proved from fmt's source: count such statements apart). THE CARD IS WHAT COUNTS. Prove the row's statement (the work); the ties are given (YtgpabfbnbmbmeaaGreatDoorTie.lean); close each card by the builder's one call (the guide's Derived/Test/ToyasCard.lean, 'card_holds'). Laid BY PROGRAM, IN A SANDBOX (cutbox-door.mjs). By AI agents, Wed Nov 11 2026. No macro, syntax, notation, axiom, sorry.
-/
import Derived.Test.YtgpabfbnbmbmeaaGreatDoorRows
import GoSem.ClaimSeven
namespace Go.Proofs.YtgpabfbnbmbmeaaGreatDoor
namespace Rows

/-- THE TIED CARD OF 'laws.FnRoots'. -/
def fnRootsCard : Claim7 := { stood := { row := fnRootsRow, standIns := [], harness := (true, "f549f2177dc9844e73e424588c7966cf0b360379bc524488d9d2cda5e3995c1f"), looks := true }, kinds := [], alts := [], laidByText := true, laidKinds := [.data, .data, .data, .data, .sentinel, .sentinel, .pinned], laidTests := true, laidLooks := .later }
def FnRootsCardSaid : Prop := Claim7.holds Tryz.pinned (.plain (OpenSpec.ofChange fnRootsSpec)) fnRootsCard

/-- THE SECOND FORM's CARD OF 'laws.FnRoots'. -/
def fnRootsUptoCard : Claim7 := { stood := { row := fnRootsUptoRow, standIns := [], harness := (true, "f549f2177dc9844e73e424588c7966cf0b360379bc524488d9d2cda5e3995c1f"), looks := true }, kinds := [], alts := [], laidByText := true, laidKinds := [.data, .data, .data, .data, .sentinel, .sentinel, .pinned], laidTests := true, laidLooks := .later }
def FnRootsUptoCardSaid : Prop := Claim7.holds Tryz.pinned (.plain (OpenSpec.upto fnRootsSpec)) fnRootsUptoCard
end Rows
end Go.Proofs.YtgpabfbnbmbmeaaGreatDoor
