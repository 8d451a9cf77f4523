/- The run of the law 'OverlayNil', by the evaluator. -/
import Derived.Test.YtojjdbpjhpcdoaaGreatDoorAeOpen
import Derived.Test.YtojjdbpjhpcdoaaGreatDoorProg
namespace Go.Proofs.YtojjdbpjhpcdoaaGreatDoor
/-- The functions that have no Go body. -/
def tab : Go.AE.ExtTab := []
theorem tab_ok : Go.AE.ExtOK Tryz.prog tab := (Go.AE.extOK_nil _)

theorem law_run : Go.AE.ends Go.AE.isTrueV (Go.AE.run (Go.AE.envOf Tryz.prog tab (Go.AE.hookB 4 [.agg #[.chan (some 0), .chan (some 1), .chan (some 2), .chan (some 3), .chan (some 4), .chan (some 5), .chan (some 6), .chan (some 7), .chan (some 8), .chan (some 9), .chan (some 10)]])) 100000 (.call (.fn 3) [.agg #[.chan (some 0), .chan (some 1), .chan (some 2), .chan (some 3), .chan (some 4), .chan (some 5), .chan (some 6), .chan (some 7), .chan (some 8), .chan (some 9), .chan (some 10)]] (Go.AE.startAt 11))) = true := by kernel_rfl

end Go.Proofs.YtojjdbpjhpcdoaaGreatDoor
