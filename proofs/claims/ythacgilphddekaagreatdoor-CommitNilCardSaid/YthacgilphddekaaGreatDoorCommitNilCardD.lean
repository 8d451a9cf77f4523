/- A fact of the card of the law 'CommitNil'. -/
import Derived.Test.YthacgilphddekaaGreatDoorCards
import Derived.Test.YthacgilphddekaaGreatDoorTie
import Derived.ProofKit
import Derived.SevenTiedAt
namespace Go.Proofs.YthacgilphddekaaGreatDoor
open Go.ChangeShapes Go.WideShapes Go.ChangeAt Go.RowKit

theorem commitNil_main : Tryz.prog.mainIs = some (((true, "f573976da346789cf395eff70fade4a75a63db17134be4fdd547c241b6801aad") : Bool × String).1, ((true, "f573976da346789cf395eff70fade4a75a63db17134be4fdd547c241b6801aad") : Bool × String).2.toList) := by kernel_rfl
end Go.Proofs.YthacgilphddekaaGreatDoor
