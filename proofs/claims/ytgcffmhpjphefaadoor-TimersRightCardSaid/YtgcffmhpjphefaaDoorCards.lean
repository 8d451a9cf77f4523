/-
  DERIVED. GIVEN WITH THE SEED: THE CARDS: each row of YtgcffmhpjphefaaDoorRows.lean that lists a variable, with what it lists TIED to the program's text (the seventh form; the later family's looks); each row that meets fmt, with fmt's text TOLD by the authors' own Lean function (tested against real Go, not proved from fmt's source: count such statements apart). THE CARD IS WHAT COUNTS. Prove the row's statement (the work); the ties are given (YtgcffmhpjphefaaDoorTie.lean); close each card by the builder's one call (the guide's Derived/Test/ToyasCard.lean, 'card_holds'). Laid BY PROGRAM, IN A SANDBOX (cutbox-door.mjs). By AI agents, Wed Nov 11 2026. No macro, syntax, notation, axiom, sorry.
-/
import Derived.Test.YtgcffmhpjphefaaDoorRows
import GoSem.ClaimSeven
namespace Go.Proofs.YtgcffmhpjphefaaDoor
namespace Rows

/-- THE TIED CARD OF 'belfrylaw10.TimersAfter'. -/
def timersAfterCard : Claim7 := { stood := { row := timersAfterRow, standIns := [], harness := (true, "4d74ff83a362e8f7fb419518048ca5cbabfd09e4df89121696b26680b9c8f556"), looks := true }, kinds := [], alts := [], laidByText := true, laidKinds := [.data, .data, .data], laidTests := true, laidLooks := .later }
def TimersAfterCardSaid : Prop := Claim7.holds Tryd.pinned (.plain (OpenSpec.ofChange timersAfterSpec)) timersAfterCard

/-- THE TIED CARD OF 'belfrylaw10.TimersRight'. -/
def timersRightCard : Claim7 := { stood := { row := timersRightRow, standIns := [], harness := (true, "4d74ff83a362e8f7fb419518048ca5cbabfd09e4df89121696b26680b9c8f556"), looks := true }, kinds := [], alts := [], laidByText := true, laidKinds := [.data, .data, .data], laidTests := true, laidLooks := .later }
def TimersRightCardSaid : Prop := Claim7.holds Tryd.pinned (.plain (OpenSpec.ofChange timersRightSpec)) timersRightCard

/-- THE SECOND FORM's CARD OF 'belfrylaw10.TimersAfter'. -/
def timersAfterUptoCard : Claim7 := { stood := { row := timersAfterUptoRow, standIns := [], harness := (true, "4d74ff83a362e8f7fb419518048ca5cbabfd09e4df89121696b26680b9c8f556"), looks := true }, kinds := [], alts := [], laidByText := true, laidKinds := [.data, .data, .data], laidTests := true, laidLooks := .later }
def TimersAfterUptoCardSaid : Prop := Claim7.holds Tryd.pinned (.plain (OpenSpec.upto timersAfterSpec)) timersAfterUptoCard

/-- THE SECOND FORM's CARD OF 'belfrylaw10.TimersRight'. -/
def timersRightUptoCard : Claim7 := { stood := { row := timersRightUptoRow, standIns := [], harness := (true, "4d74ff83a362e8f7fb419518048ca5cbabfd09e4df89121696b26680b9c8f556"), looks := true }, kinds := [], alts := [], laidByText := true, laidKinds := [.data, .data, .data], laidTests := true, laidLooks := .later }
def TimersRightUptoCardSaid : Prop := Claim7.holds Tryd.pinned (.plain (OpenSpec.upto timersRightSpec)) timersRightUptoCard
end Rows
end Go.Proofs.YtgcffmhpjphefaaDoor
