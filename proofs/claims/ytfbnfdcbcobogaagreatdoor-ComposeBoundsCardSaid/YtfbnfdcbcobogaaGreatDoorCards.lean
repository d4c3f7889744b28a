/-
  DERIVED. GIVEN WITH THE SEED: THE CARDS: each row of YtfbnfdcbcobogaaGreatDoorRows.lean that lists a variable, with what it lists TIED to the program's text (the seventh form; the later family's looks); each row that meets fmt, with fmt's text TOLD by the authors' own Lean function (tested against real Go, not proved from fmt's source: count such statements apart). THE CARD IS WHAT COUNTS. Prove the row's statement (the work); the ties are given (YtfbnfdcbcobogaaGreatDoorTie.lean); close each card by the builder's one call (the guide's Derived/Test/ToyasCard.lean, 'card_holds'). Laid BY PROGRAM, IN A SANDBOX (cutbox-door.mjs). By AI agents, Wed Nov 11 2026. No macro, syntax, notation, axiom, sorry.
-/
import Derived.Test.YtfbnfdcbcobogaaGreatDoorRows
import GoSem.ClaimSeven
namespace Go.Proofs.YtfbnfdcbcobogaaGreatDoor
namespace Rows

/-- THE TIED CARD OF 'pouchlaw17.ComposeBounds'. -/
def composeBoundsCard : Claim7 := { stood := { row := composeBoundsRow, standIns := [], harness := (true, "c711cee1f04d94cfbae07a45ac56614fd2b3f8a21e97fc795a0a536dc5ca59ff"), looks := true }, kinds := [], alts := [], laidByText := true, laidKinds := [.data, .data, .data, .data, .sentinel, .sentinel, .widerDeep, .widerDeep, .mapped, .pinned, .pinned], laidTests := true, laidLooks := .later }
def ComposeBoundsCardSaid : Prop := Claim7.holds Tryz.pinned (.plain (OpenSpec.ofChange composeBoundsSpec)) composeBoundsCard

/-- THE SECOND FORM's CARD OF 'pouchlaw17.ComposeBounds'. -/
def composeBoundsUptoCard : Claim7 := { stood := { row := composeBoundsUptoRow, standIns := [], harness := (true, "c711cee1f04d94cfbae07a45ac56614fd2b3f8a21e97fc795a0a536dc5ca59ff"), looks := true }, kinds := [], alts := [], laidByText := true, laidKinds := [.data, .data, .data, .data, .sentinel, .sentinel, .widerDeep, .widerDeep, .mapped, .pinned, .pinned], laidTests := true, laidLooks := .later }
def ComposeBoundsUptoCardSaid : Prop := Claim7.holds Tryz.pinned (.plain (OpenSpec.upto composeBoundsSpec)) composeBoundsUptoCard
end Rows
end Go.Proofs.YtfbnfdcbcobogaaGreatDoor
