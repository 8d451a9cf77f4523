/- The run of the law 'CommitNil', by the evaluator. -/
import Derived.Test.YthacgilphddekaaGreatDoorAlive
namespace Go.Proofs.YthacgilphddekaaGreatDoor

theorem law_run : Go.AE.ends Go.AE.isTrueV (Go.AE.runF (Go.AE.envOf Tryz.prog tab (Go.AE.orHook (Go.AE.hookA 8) (Go.AE.orHook (Go.AE.hookB 24 [.chan (some 5)]) (Go.AE.hookV 36 [.pointer none, .chan (some 2)] (.tuple #[.pointer none, .int .i64 1]))))) 100000 (.call (.fn 5) [.agg #[.chan (some 0), .chan (some 1), .chan (some 2), .chan (some 3), .chan (some 4), .chan (some 5), .chan (some 6), .chan (some 7)]] (Go.AE.startAt 8))) = true := by kernel_rfl

end Go.Proofs.YthacgilphddekaaGreatDoor
