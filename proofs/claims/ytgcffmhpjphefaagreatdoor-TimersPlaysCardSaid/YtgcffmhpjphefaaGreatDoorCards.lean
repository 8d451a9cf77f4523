/-
  DERIVED. GIVEN WITH THE SEED: THE CARDS: each row of YtgcffmhpjphefaaGreatDoorRows.lean that lists a variable, with what it lists TIED to the program's text (the seventh form; the later family's looks); each row that meets fmt, with fmt's text TOLD by the authors' own Lean function (tested against real Go, not proved from fmt's source: count such statements apart). THE CARD IS WHAT COUNTS. Prove the row's statement (the work); the ties are given (YtgcffmhpjphefaaGreatDoorTie.lean); close each card by the builder's one call (the guide's Derived/Test/ToyasCard.lean, 'card_holds'). Laid BY PROGRAM, IN A SANDBOX (cutbox-door.mjs). By AI agents, Wed Nov 11 2026. No macro, syntax, notation, axiom, sorry.
-/
import Derived.Test.YtgcffmhpjphefaaGreatDoorRows
import GoSem.ClaimSeven
namespace Go.Proofs.YtgcffmhpjphefaaGreatDoor
namespace Rows

/-- THE TIED CARD OF 'belfrylaw10.TimersDue'. -/
def timersDueCard : Claim7 := { stood := { row := timersDueRow, standIns := [], harness := (true, "1ae6fc6c3bb4b4e646a778c1e37d6a6b5d9719ea2c6b3c26b35f6ac15c63dffb"), looks := true }, kinds := [], alts := [], laidByText := true, laidKinds := [.data, .data, .data], laidTests := true, laidLooks := .later }
def TimersDueCardSaid : Prop := Claim7.holds Tryz.pinned (.plain (OpenSpec.ofChange timersDueSpec)) timersDueCard

/-- THE TIED CARD OF 'belfrylaw10.TimersCopies'. -/
def timersCopiesCard : Claim7 := { stood := { row := timersCopiesRow, standIns := [], harness := (true, "1ae6fc6c3bb4b4e646a778c1e37d6a6b5d9719ea2c6b3c26b35f6ac15c63dffb"), looks := true }, kinds := [], alts := [], laidByText := true, laidKinds := [.data, .data, .data], laidTests := true, laidLooks := .later }
def TimersCopiesCardSaid : Prop := Claim7.holds Tryz.pinned (.plain (OpenSpec.ofChange timersCopiesSpec)) timersCopiesCard

/-- THE TIED CARD OF 'belfrylaw10.TimersPlays'. -/
def timersPlaysCard : Claim7 := { stood := { row := timersPlaysRow, standIns := [], harness := (true, "1ae6fc6c3bb4b4e646a778c1e37d6a6b5d9719ea2c6b3c26b35f6ac15c63dffb"), looks := true }, kinds := [], alts := [], laidByText := true, laidKinds := [.data, .data, .data], laidTests := true, laidLooks := .later }
def TimersPlaysCardSaid : Prop := Claim7.holds Tryz.pinned (.plain (OpenSpec.ofChange timersPlaysSpec)) timersPlaysCard

/-- THE TIED CARD OF 'belfrylaw10.TimersNil'. -/
def timersNilCard : Claim7 := { stood := { row := timersNilRow, standIns := [], harness := (true, "1ae6fc6c3bb4b4e646a778c1e37d6a6b5d9719ea2c6b3c26b35f6ac15c63dffb"), looks := true }, kinds := [], alts := [], laidByText := true, laidKinds := [.data, .data, .data], laidTests := true, laidLooks := .later }
def TimersNilCardSaid : Prop := Claim7.holds Tryz.pinned (.plain (OpenSpec.ofChange timersNilSpec)) timersNilCard

/-- THE SECOND FORM's CARD OF 'belfrylaw10.TimersDue'. -/
def timersDueUptoCard : Claim7 := { stood := { row := timersDueUptoRow, standIns := [], harness := (true, "1ae6fc6c3bb4b4e646a778c1e37d6a6b5d9719ea2c6b3c26b35f6ac15c63dffb"), looks := true }, kinds := [], alts := [], laidByText := true, laidKinds := [.data, .data, .data], laidTests := true, laidLooks := .later }
def TimersDueUptoCardSaid : Prop := Claim7.holds Tryz.pinned (.plain (OpenSpec.upto timersDueSpec)) timersDueUptoCard

/-- THE SECOND FORM's CARD OF 'belfrylaw10.TimersCopies'. -/
def timersCopiesUptoCard : Claim7 := { stood := { row := timersCopiesUptoRow, standIns := [], harness := (true, "1ae6fc6c3bb4b4e646a778c1e37d6a6b5d9719ea2c6b3c26b35f6ac15c63dffb"), looks := true }, kinds := [], alts := [], laidByText := true, laidKinds := [.data, .data, .data], laidTests := true, laidLooks := .later }
def TimersCopiesUptoCardSaid : Prop := Claim7.holds Tryz.pinned (.plain (OpenSpec.upto timersCopiesSpec)) timersCopiesUptoCard

/-- THE SECOND FORM's CARD OF 'belfrylaw10.TimersPlays'. -/
def timersPlaysUptoCard : Claim7 := { stood := { row := timersPlaysUptoRow, standIns := [], harness := (true, "1ae6fc6c3bb4b4e646a778c1e37d6a6b5d9719ea2c6b3c26b35f6ac15c63dffb"), looks := true }, kinds := [], alts := [], laidByText := true, laidKinds := [.data, .data, .data], laidTests := true, laidLooks := .later }
def TimersPlaysUptoCardSaid : Prop := Claim7.holds Tryz.pinned (.plain (OpenSpec.upto timersPlaysSpec)) timersPlaysUptoCard

/-- THE SECOND FORM's CARD OF 'belfrylaw10.TimersNil'. -/
def timersNilUptoCard : Claim7 := { stood := { row := timersNilUptoRow, standIns := [], harness := (true, "1ae6fc6c3bb4b4e646a778c1e37d6a6b5d9719ea2c6b3c26b35f6ac15c63dffb"), looks := true }, kinds := [], alts := [], laidByText := true, laidKinds := [.data, .data, .data], laidTests := true, laidLooks := .later }
def TimersNilUptoCardSaid : Prop := Claim7.holds Tryz.pinned (.plain (OpenSpec.upto timersNilSpec)) timersNilUptoCard
end Rows
end Go.Proofs.YtgcffmhpjphefaaGreatDoor
