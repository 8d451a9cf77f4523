/- The run of the law 'JournalNil', by the evaluator. -/
import Derived.Test.YteliompfkomamabGreatDoorAeFast
import Derived.Test.YteliompfkomamabGreatDoorProg
namespace Go.Proofs.YteliompfkomamabGreatDoor
/-- The functions that have no Go body. -/
def tab : Go.AE.ExtTab := [(205, add64Entry)]
theorem tab_ok : Go.AE.ExtOK Tryz.prog tab := (Go.AE.extOK_cons Tryz.f205 Tryz.func205 (by kernel_rfl) (by kernel_rfl) (by kernel_rfl) (by kernel_rfl) (Go.AE.extOK_nil _))

theorem alive_run : Go.AE.ends Go.AE.isTrueV (Go.AE.runF (Go.AE.envOf Tryz.prog tab Go.AE.noHook) 100000 (.call (.fn 5) [] (Go.AE.startAt 0))) = true := by kernel_rfl
theorem alive_calls (w : World) : Calls Tryz.prog 5 #[] w fun e w' => e = .returned (.bool true) ∧ Go.RowKit.Below w.heap.size w w' :=
  Go.AE.calls_true (raws := []) tab_ok (by kernel_rfl) Go.AE.hook_none (args := []) .nil (by rw [Go.AE.run_F]; exact alive_run)
theorem law_run_true : Go.AE.ends Go.AE.isTrueV (Go.AE.runF (Go.AE.envOf Tryz.prog tab (Go.AE.orHook (Go.AE.hookA 5) (Go.AE.hookB 4 [.agg #[.chan (some 0), .chan (some 1), .bool true, .chan (some 3), .chan (some 4), .chan (some 5), .chan (some 6), .chan (some 7), .chan (some 8), .chan (some 9), .chan (some 10), .chan (some 11), .chan (some 12)]]))) 100000 (.call (.fn 3) [.agg #[.chan (some 0), .chan (some 1), .bool true, .chan (some 3), .chan (some 4), .chan (some 5), .chan (some 6), .chan (some 7), .chan (some 8), .chan (some 9), .chan (some 10), .chan (some 11), .chan (some 12)]] (Go.AE.startAt 13))) = true := by kernel_rfl
theorem law_run_false : Go.AE.ends Go.AE.isTrueV (Go.AE.runF (Go.AE.envOf Tryz.prog tab (Go.AE.orHook (Go.AE.hookA 5) (Go.AE.hookB 4 [.agg #[.chan (some 0), .chan (some 1), .bool false, .chan (some 3), .chan (some 4), .chan (some 5), .chan (some 6), .chan (some 7), .chan (some 8), .chan (some 9), .chan (some 10), .chan (some 11), .chan (some 12)]]))) 100000 (.call (.fn 3) [.agg #[.chan (some 0), .chan (some 1), .bool false, .chan (some 3), .chan (some 4), .chan (some 5), .chan (some 6), .chan (some 7), .chan (some 8), .chan (some 9), .chan (some 10), .chan (some 11), .chan (some 12)]] (Go.AE.startAt 13))) = true := by kernel_rfl
theorem law_run (b0_2 : Bool) : Go.AE.ends Go.AE.isTrueV (Go.AE.runF (Go.AE.envOf Tryz.prog tab (Go.AE.orHook (Go.AE.hookA 5) (Go.AE.hookB 4 [.agg #[.chan (some 0), .chan (some 1), .bool b0_2, .chan (some 3), .chan (some 4), .chan (some 5), .chan (some 6), .chan (some 7), .chan (some 8), .chan (some 9), .chan (some 10), .chan (some 11), .chan (some 12)]]))) 100000 (.call (.fn 3) [.agg #[.chan (some 0), .chan (some 1), .bool b0_2, .chan (some 3), .chan (some 4), .chan (some 5), .chan (some 6), .chan (some 7), .chan (some 8), .chan (some 9), .chan (some 10), .chan (some 11), .chan (some 12)]] (Go.AE.startAt 13))) = true := by
  cases b0_2
  · exact law_run_false
  · exact law_run_true

end Go.Proofs.YteliompfkomamabGreatDoor
