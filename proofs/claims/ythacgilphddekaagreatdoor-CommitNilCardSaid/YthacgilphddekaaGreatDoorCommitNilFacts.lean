/- The facts that the row of the law 'CommitNil' names, and the row. -/
import Derived.Test.YthacgilphddekaaGreatDoorCommitNilLift
namespace Go.Proofs.YthacgilphddekaaGreatDoor
open Go.ChangeShapes Go.WideShapes Go.ChangeAt Go.RowKit

theorem fact_named : Tryz.prog.funcNamed Rows.commitNilRow.func = some 5 := by kernel_rfl
theorem fact_inst : Tryz.f5.isInstance Tryz.prog Rows.commitNilRow.origin Rows.commitNilRow.targs := of_decide_eq_true (by kernel_rfl)
theorem fact_wrap : Tryz.f5.isWrapper Tryz.prog Rows.commitNilRow.wrapper Rows.commitNilRow.mainSum := by
  unfold Func.isWrapper
  first | (rw [if_pos (by decide +kernel)]; kernel_rfl) | (rw [if_neg (by decide +kernel)]; exact ⟨rfl, rfl⟩)
theorem fact_j1 : (Rows.commitNilRow.inPlace == Tryz.prog.inPlace 5) = true := by kernel_rfl
theorem fact_j2 : (Rows.commitNilRow.unfollowed == Tryz.prog.unfollowed 5) = true := by kernel_rfl
theorem fact_j3 : (Rows.commitNilRow.recurses == Tryz.prog.recurses 5) = true := by kernel_rfl
theorem fact_j4 : (Rows.commitNilRow.named == Tryz.prog.varsNamed 5) = true := by kernel_rfl
theorem fact_j5 : mapsRowed Tryz.prog = true := by kernel_rfl
theorem fact_joined : joinedFacts Tryz.prog 5 Tryz.f5 Rows.commitNilSpec Rows.commitNilRow = true := by
  unfold joinedFacts
  rw [fact_j1, fact_j2, fact_j3, fact_j4, fact_j5, Tryz.laidOut]
  kernel_rfl

theorem law_holds : Rows.CommitNilSaid :=
  OpenClaim.holds_of_wide 5 Tryz.f5 rfl rfl rfl rfl rfl rfl rfl ⟨rfl, rfl, rfl, rfl, rfl⟩ rfl rfl rfl rfl rfl fact_named Tryz.func5 fact_joined fact_inst fact_wrap
    (fun os started H enc _ => law_lifted os started H enc)

end Go.Proofs.YthacgilphddekaaGreatDoor
