/- A fact of the card of the law 'CommitNil'. -/
import Derived.Test.YthacgilphddekaaGreatDoorCards
import Derived.Test.YthacgilphddekaaGreatDoorTie
import Derived.ProofKit
import Derived.SevenTiedAt
namespace Go.Proofs.YthacgilphddekaaGreatDoor
open Go.ChangeShapes Go.WideShapes Go.ChangeAt Go.RowKit

theorem commitNil_goes : false = Rows.commitNilRow.goesBy Tryz.prog := by kernel_rfl
end Go.Proofs.YthacgilphddekaaGreatDoor
