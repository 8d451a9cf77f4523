/- Contracts of no world's at and of: no node, and ErrArg. -/
import Derived.Test.YthacgilphddekaaGreatDoorRows
import Derived.WalkKit
import Derived.ProofKit
import Derived.Below
namespace Go.Proofs.YthacgilphddekaaGreatDoor
open Go.RowKit

set_option maxHeartbeats 1000000 in
theorem at_nil (n : Int) (w : World) : Calls Tryz.prog 34 #[.pointer none, .int .i64 n] w fun e w' => e = .returned (.tuple #[.pointer none, .int .i64 1]) ∧ Below w.heap.size w w' := by
  go_enter Tryz.func34, Tryz.ntmps34
  go_wp2
  go_ret2
  exact ⟨rfl, Below.refl _ _⟩

set_option maxHeartbeats 2000000 in
theorem of_nil (tx : Int) (w : World) : Calls Tryz.prog 36 #[.pointer none, .int .i64 tx] w fun e w' => e = .returned (.tuple #[.pointer none, .int .i64 1]) ∧ Below w.heap.size w w' := by
  by_cases h : tx < 0
  all_goals
    go_enter Tryz.func36, Tryz.ntmps36
    go_wp2_with (first | (go_at_call 34; refine (at_nil _ _).mono ?_; rintro e w' ⟨rfl, hb⟩))
    go_ret2
    exact ⟨rfl, hb⟩

end Go.Proofs.YthacgilphddekaaGreatDoor
