/- PROVED: the law 'CommitNil' (belfrylaw20), as a tied card: whatever the arguments, the call returns true, and the arguments read as they did: where the listed package variables hold what the program's text lays in them (the row's own condition). -/
import Derived.Test.YthacgilphddekaaGreatDoorCommitNilCardA
import Derived.Test.YthacgilphddekaaGreatDoorCommitNilCardB
import Derived.Test.YthacgilphddekaaGreatDoorCommitNilCardC
import Derived.Test.YthacgilphddekaaGreatDoorCommitNilCardD
import Derived.Test.YthacgilphddekaaGreatDoorCommitNilFacts
namespace Go.Proofs.YthacgilphddekaaGreatDoor
open Go.ChangeShapes Go.WideShapes Go.ChangeAt Go.RowKit

theorem law_card : Rows.CommitNilCardSaid :=
  Claim7.holds_tied_plain_at .later [] [.data, .data, .data, .sentinel, .sentinel] true (true, "f573976da346789cf395eff70fade4a75a63db17134be4fdd547c241b6801aad") true
    law_holds (fun _ h => by cases h) commitNil_wf (fun _ h => by cases h) commitNil_row_tie rfl ⟨rfl, rfl⟩ commitNil_main rfl
    (fun f fn hf hfn => by
      obtain rfl : f = 5 := Option.some.inj (fact_named.symm.trans hf) |>.symm
      obtain rfl : fn = Tryz.f5 := (Option.some.inj (Tryz.func5.symm.trans hfn)).symm
      exact ⟨commitNil_looks, fun j t ht => by
        have hm : t ∈ Tryz.f5.params.toList := by
          rw [← Array.getElem?_toList] at ht
          exact List.mem_of_getElem? ht
        have := List.all_eq_true.1 law_stand t hm
        exact (by simpa using this : Tryz.prog.wantsStandIn t = false)⟩)
    commitNil_goes

#print axioms law_card
end Go.Proofs.YthacgilphddekaaGreatDoor
