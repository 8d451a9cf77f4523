/-
  DERIVED. GIVEN WITH THE SEED: THE CARDS: each row of YteliompfkomamaaGreatDoorRows.lean that lists a variable, with what it lists TIED to the program's text (the seventh form; the later family's looks); each row that meets fmt, with fmt's text TOLD by the authors' own Lean function (tested against real Go, not proved from fmt's source: count such statements apart). THE CARD IS WHAT COUNTS. Prove the row's statement (the work); the ties are given (YteliompfkomamaaGreatDoorTie.lean); close each card by the builder's one call (the guide's Derived/Test/ToyasCard.lean, 'card_holds'). Laid BY PROGRAM, IN A SANDBOX (cutbox-door.mjs). By AI agents, Wed Nov 11 2026. No macro, syntax, notation, axiom, sorry.
-/
import Derived.Test.YteliompfkomamaaGreatDoorRows
import GoSem.ClaimSeven
namespace Go.Proofs.YteliompfkomamaaGreatDoor
namespace Rows

/-- THE TIED CARD OF 'belfrylaw18.ParticipantNil'. -/
def participantNilCard : Claim7 := { stood := { row := participantNilRow, standIns := [], harness := (true, "ac2f8b927725cdc92e291a6f43169487df49c8e6315b3fff31babc47612f1d83"), looks := true }, kinds := [], alts := [], laidByText := true, laidKinds := [.data, .data, .data, .sentinel, .sentinel], laidTests := true, laidLooks := .later }
def ParticipantNilCardSaid : Prop := Claim7.holds Tryz.pinned (.plain (OpenSpec.ofChange participantNilSpec)) participantNilCard

/-- THE SECOND FORM's CARD OF 'belfrylaw18.ParticipantNil'. -/
def participantNilUptoCard : Claim7 := { stood := { row := participantNilUptoRow, standIns := [], harness := (true, "ac2f8b927725cdc92e291a6f43169487df49c8e6315b3fff31babc47612f1d83"), looks := true }, kinds := [], alts := [], laidByText := true, laidKinds := [.data, .data, .data, .sentinel, .sentinel], laidTests := true, laidLooks := .later }
def ParticipantNilUptoCardSaid : Prop := Claim7.holds Tryz.pinned (.plain (OpenSpec.upto participantNilSpec)) participantNilUptoCard
end Rows
end Go.Proofs.YteliompfkomamaaGreatDoor
