/- The run of the law 'ParticipantNil', by the evaluator. -/
import Derived.Test.YteliompfkomamaaGreatDoorAeFast
import Derived.Test.YteliompfkomamaaGreatDoorProg
namespace Go.Proofs.YteliompfkomamaaGreatDoor
/-- The functions that have no Go body. -/
def tab : Go.AE.ExtTab := []
theorem tab_ok : Go.AE.ExtOK Tryz.prog tab := (Go.AE.extOK_nil _)

theorem law_run : Go.AE.ends Go.AE.isTrueV (Go.AE.runF (Go.AE.envOf Tryz.prog tab (Go.AE.hookB 4 [.agg #[.chan (some 0), .chan (some 1), .chan (some 2), .chan (some 3), .chan (some 4), .chan (some 5)]])) 100000 (.call (.fn 3) [.agg #[.chan (some 0), .chan (some 1), .chan (some 2), .chan (some 3), .chan (some 4), .chan (some 5)], .chan (some 6)] (Go.AE.startAt 7))) = true := by kernel_rfl

end Go.Proofs.YteliompfkomamaaGreatDoor
