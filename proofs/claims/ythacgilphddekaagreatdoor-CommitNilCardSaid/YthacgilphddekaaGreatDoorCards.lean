/-
  DERIVED. GIVEN WITH THE SEED: THE CARDS: each row of YthacgilphddekaaGreatDoorRows.lean that lists a variable, with what it lists TIED to the program's text (the seventh form; the later family's looks); each row that meets fmt, with fmt's text TOLD by the authors' own Lean function (tested against real Go, not proved from fmt's source: count such statements apart). THE CARD IS WHAT COUNTS. Prove the row's statement (the work); the ties are given (YthacgilphddekaaGreatDoorTie.lean); close each card by the builder's one call (the guide's Derived/Test/ToyasCard.lean, 'card_holds'). Laid BY PROGRAM, IN A SANDBOX (cutbox-door.mjs). By AI agents, Wed Nov 11 2026. No macro, syntax, notation, axiom, sorry.
-/
import Derived.Test.YthacgilphddekaaGreatDoorRows
import GoSem.ClaimSeven
namespace Go.Proofs.YthacgilphddekaaGreatDoor
namespace Rows

/-- THE TIED CARD OF 'belfrylaw20.CommitClash'. -/
def commitClashCard : Claim7 := { stood := { row := commitClashRow, standIns := [], harness := (true, "f573976da346789cf395eff70fade4a75a63db17134be4fdd547c241b6801aad"), looks := true }, kinds := [], alts := [], laidByText := true, laidKinds := [.data, .data, .data, .sentinel, .sentinel], laidTests := true, laidLooks := .later }
def CommitClashCardSaid : Prop := Claim7.holds Tryz.pinned (.plain (OpenSpec.ofChange commitClashSpec)) commitClashCard

/-- THE TIED CARD OF 'belfrylaw20.CommitLone'. -/
def commitLoneCard : Claim7 := { stood := { row := commitLoneRow, standIns := [], harness := (true, "f573976da346789cf395eff70fade4a75a63db17134be4fdd547c241b6801aad"), looks := true }, kinds := [], alts := [], laidByText := true, laidKinds := [.data, .data, .data, .sentinel, .sentinel], laidTests := true, laidLooks := .later }
def CommitLoneCardSaid : Prop := Claim7.holds Tryz.pinned (.plain (OpenSpec.ofChange commitLoneSpec)) commitLoneCard

/-- THE TIED CARD OF 'belfrylaw20.CommitNil'. -/
def commitNilCard : Claim7 := { stood := { row := commitNilRow, standIns := [], harness := (true, "f573976da346789cf395eff70fade4a75a63db17134be4fdd547c241b6801aad"), looks := true }, kinds := [], alts := [], laidByText := true, laidKinds := [.data, .data, .data, .sentinel, .sentinel], laidTests := true, laidLooks := .later }
def CommitNilCardSaid : Prop := Claim7.holds Tryz.pinned (.plain (OpenSpec.ofChange commitNilSpec)) commitNilCard

/-- THE SECOND FORM's CARD OF 'belfrylaw20.CommitClash'. -/
def commitClashUptoCard : Claim7 := { stood := { row := commitClashUptoRow, standIns := [], harness := (true, "f573976da346789cf395eff70fade4a75a63db17134be4fdd547c241b6801aad"), looks := true }, kinds := [], alts := [], laidByText := true, laidKinds := [.data, .data, .data, .sentinel, .sentinel], laidTests := true, laidLooks := .later }
def CommitClashUptoCardSaid : Prop := Claim7.holds Tryz.pinned (.plain (OpenSpec.upto commitClashSpec)) commitClashUptoCard

/-- THE SECOND FORM's CARD OF 'belfrylaw20.CommitLone'. -/
def commitLoneUptoCard : Claim7 := { stood := { row := commitLoneUptoRow, standIns := [], harness := (true, "f573976da346789cf395eff70fade4a75a63db17134be4fdd547c241b6801aad"), looks := true }, kinds := [], alts := [], laidByText := true, laidKinds := [.data, .data, .data, .sentinel, .sentinel], laidTests := true, laidLooks := .later }
def CommitLoneUptoCardSaid : Prop := Claim7.holds Tryz.pinned (.plain (OpenSpec.upto commitLoneSpec)) commitLoneUptoCard

/-- THE SECOND FORM's CARD OF 'belfrylaw20.CommitNil'. -/
def commitNilUptoCard : Claim7 := { stood := { row := commitNilUptoRow, standIns := [], harness := (true, "f573976da346789cf395eff70fade4a75a63db17134be4fdd547c241b6801aad"), looks := true }, kinds := [], alts := [], laidByText := true, laidKinds := [.data, .data, .data, .sentinel, .sentinel], laidTests := true, laidLooks := .later }
def CommitNilUptoCardSaid : Prop := Claim7.holds Tryz.pinned (.plain (OpenSpec.upto commitNilSpec)) commitNilUptoCard
end Rows
end Go.Proofs.YthacgilphddekaaGreatDoor
