/-
  No cell of these rows narrows 'for every input' (looked for: loops, veiled, ifaces, maps, wideKeys, modest, calm, conditions, laid).
  DERIVED. THE GIVEN ROWS OF THIS SEAT. 6 by the template 'for every input the law returns true; each argument reads behind the call as it read before'; 0 by the template 'total and deterministic' (their statements: YtpmpclieclcbdaaTotals.lean).
  GIVEN WITH THE SEED: the statements are not yours to turn. If you find one false, say at which input.
  Laid BY PROGRAM, IN A SANDBOX (cutbox-rows.mjs): the forced cells as the released guide's own fill.sh prints them over the translation 7eaee69fe3547b3d… (all of the seat's roots in one cut). By AI agents, Wed Nov 11 2026. No macro, syntax, notation, axiom, sorry.
-/
import Derived.Test.YtpmpclieclcbdaaChecked
import GoSem.Claim
import GoSem.ClaimJoined
import GoSem.ClaimMapViews
import Derived.JoinedTies
import Derived.KernelRfl
namespace Go.Proofs.Ytpmpclieclcbdaa
/- THE CELL 'sum', in the pinned program and in every row, IS THE sha256 OF THE DUMP (.gsa) THAT YtpmpclieclcbdaaProg.lean LOADS. Nothing in Lean hashes anything: it is a label: what it is worth is what the hold of that sum in a sandbox is worth. -/
noncomputable def Try.pinned : Pinned := { name := "ytpmpclieclcbdaa", sum := "7eaee69fe3547b3d13688ff37db96e481373861b5b413d5c3a1f7ebe0a350b0f", checked := Try.checked }
namespace Rows
def none {H : Type} : Left H := { results := [], args := [] }

/-- 'belfrylaw07.WheelDue': WHATEVER THE INPUT: true; the input reads as it did. -/
def wheelDueSpec : ChangeSpec := { name := "wheelDue", fn := fun _ => fun
  | [d1, d2, d3] => { results := [.lit (.bool true)], args := [d1, d2, d3] }
  | _ => none }
def wheelDueRow : OpenClaim := { program := "ytpmpclieclcbdaa", sum := "7eaee69fe3547b3d13688ff37db96e481373861b5b413d5c3a1f7ebe0a350b0f", func := "belfry/belfrylaw07.WheelDue", spec := "wheelDue", unfollowed := true, recurses := true, apart := false }
def WheelDueSaid : Prop := wheelDueRow.holds Try.pinned (OpenSpec.ofChange wheelDueSpec)

/-- ITS FALSE NEIGHBOUR: 'it returns false'. Refute it at one input. -/
def wheelDueWrong : ChangeSpec := { name := "wheelDue", fn := fun _ => fun
  | [d1, d2, d3] => { results := [.lit (.bool false)], args := [d1, d2, d3] }
  | _ => none }
def WheelDueWrongFalsely : Prop := wheelDueRow.holds Try.pinned (OpenSpec.ofChange wheelDueWrong)

/-- 'belfrylaw07.WheelMoves': WHATEVER THE INPUT: true; the input reads as it did. -/
def wheelMovesSpec : ChangeSpec := { name := "wheelMoves", fn := fun _ => fun
  | [d1, d2, d3] => { results := [.lit (.bool true)], args := [d1, d2, d3] }
  | _ => none }
def wheelMovesRow : OpenClaim := { program := "ytpmpclieclcbdaa", sum := "7eaee69fe3547b3d13688ff37db96e481373861b5b413d5c3a1f7ebe0a350b0f", func := "belfry/belfrylaw07.WheelMoves", spec := "wheelMoves", unfollowed := true, recurses := true, apart := false }
def WheelMovesSaid : Prop := wheelMovesRow.holds Try.pinned (OpenSpec.ofChange wheelMovesSpec)

/-- ITS FALSE NEIGHBOUR: 'it returns false'. Refute it at one input. -/
def wheelMovesWrong : ChangeSpec := { name := "wheelMoves", fn := fun _ => fun
  | [d1, d2, d3] => { results := [.lit (.bool false)], args := [d1, d2, d3] }
  | _ => none }
def WheelMovesWrongFalsely : Prop := wheelMovesRow.holds Try.pinned (OpenSpec.ofChange wheelMovesWrong)

/-- 'belfrylaw07.WheelPlays': WHATEVER THE INPUT: true; the input reads as it did. -/
def wheelPlaysSpec : ChangeSpec := { name := "wheelPlays", fn := fun _ => fun
  | [d1, d2] => { results := [.lit (.bool true)], args := [d1, d2] }
  | _ => none }
def wheelPlaysRow : OpenClaim := { program := "ytpmpclieclcbdaa", sum := "7eaee69fe3547b3d13688ff37db96e481373861b5b413d5c3a1f7ebe0a350b0f", func := "belfry/belfrylaw07.WheelPlays", spec := "wheelPlays", unfollowed := true, recurses := true, apart := false }
def WheelPlaysSaid : Prop := wheelPlaysRow.holds Try.pinned (OpenSpec.ofChange wheelPlaysSpec)

/-- ITS FALSE NEIGHBOUR: 'it returns false'. Refute it at one input. -/
def wheelPlaysWrong : ChangeSpec := { name := "wheelPlays", fn := fun _ => fun
  | [d1, d2] => { results := [.lit (.bool false)], args := [d1, d2] }
  | _ => none }
def WheelPlaysWrongFalsely : Prop := wheelPlaysRow.holds Try.pinned (OpenSpec.ofChange wheelPlaysWrong)

/-- 'belfrylaw07.WheelLeaps': WHATEVER THE INPUT: true; the input reads as it did. -/
def wheelLeapsSpec : ChangeSpec := { name := "wheelLeaps", fn := fun _ => fun
  | [d1, d2, d3] => { results := [.lit (.bool true)], args := [d1, d2, d3] }
  | _ => none }
def wheelLeapsRow : OpenClaim := { program := "ytpmpclieclcbdaa", sum := "7eaee69fe3547b3d13688ff37db96e481373861b5b413d5c3a1f7ebe0a350b0f", func := "belfry/belfrylaw07.WheelLeaps", spec := "wheelLeaps", unfollowed := true, recurses := true, apart := false }
def WheelLeapsSaid : Prop := wheelLeapsRow.holds Try.pinned (OpenSpec.ofChange wheelLeapsSpec)

/-- ITS FALSE NEIGHBOUR: 'it returns false'. Refute it at one input. -/
def wheelLeapsWrong : ChangeSpec := { name := "wheelLeaps", fn := fun _ => fun
  | [d1, d2, d3] => { results := [.lit (.bool false)], args := [d1, d2, d3] }
  | _ => none }
def WheelLeapsWrongFalsely : Prop := wheelLeapsRow.holds Try.pinned (OpenSpec.ofChange wheelLeapsWrong)

/-- 'belfrylaw07.WheelStands': WHATEVER THE INPUT: true; the input reads as it did. -/
def wheelStandsSpec : ChangeSpec := { name := "wheelStands", fn := fun _ => fun
  | [d1, d2] => { results := [.lit (.bool true)], args := [d1, d2] }
  | _ => none }
def wheelStandsRow : OpenClaim := { program := "ytpmpclieclcbdaa", sum := "7eaee69fe3547b3d13688ff37db96e481373861b5b413d5c3a1f7ebe0a350b0f", func := "belfry/belfrylaw07.WheelStands", spec := "wheelStands", unfollowed := true, recurses := true, apart := false }
def WheelStandsSaid : Prop := wheelStandsRow.holds Try.pinned (OpenSpec.ofChange wheelStandsSpec)

/-- ITS FALSE NEIGHBOUR: 'it returns false'. Refute it at one input. -/
def wheelStandsWrong : ChangeSpec := { name := "wheelStands", fn := fun _ => fun
  | [d1, d2] => { results := [.lit (.bool false)], args := [d1, d2] }
  | _ => none }
def WheelStandsWrongFalsely : Prop := wheelStandsRow.holds Try.pinned (OpenSpec.ofChange wheelStandsWrong)

/-- 'belfrylaw07.WheelNil': WHATEVER THE INPUT: true; the input reads as it did. -/
def wheelNilSpec : ChangeSpec := { name := "wheelNil", fn := fun _ => fun
  | [d] => { results := [.lit (.bool true)], args := [d] }
  | _ => none }
def wheelNilRow : OpenClaim := { program := "ytpmpclieclcbdaa", sum := "7eaee69fe3547b3d13688ff37db96e481373861b5b413d5c3a1f7ebe0a350b0f", func := "belfry/belfrylaw07.WheelNil", spec := "wheelNil", unfollowed := true, recurses := true, apart := false }
def WheelNilSaid : Prop := wheelNilRow.holds Try.pinned (OpenSpec.ofChange wheelNilSpec)

/-- ITS FALSE NEIGHBOUR: 'it returns false'. Refute it at one input. -/
def wheelNilWrong : ChangeSpec := { name := "wheelNil", fn := fun _ => fun
  | [d] => { results := [.lit (.bool false)], args := [d] }
  | _ => none }
def WheelNilWrongFalsely : Prop := wheelNilRow.holds Try.pinned (OpenSpec.ofChange wheelNilWrong)

/- THE SECOND FORM. 'bulk': how many values and letters a reading holds, each counted each time it is reached (what is shared counts as often as it is met; a slice's spare places count too). A statement '..UptoSaid' is the law's where the arguments, and the package variables that the reading takes, are together of bulk at most 1048576: NARROWER than '..Said'. Prove '..Said' where nothing that the law and all that it calls make is longer than what came in: it says more and counts as full. Else prove '..UptoSaid'. A law counts once. -/
mutual
def uptoBulk {H : Type} : DataW H → Nat
  | .lit (.string bytes) => bytes.length + 1
  | .lit _ => 1
  | .nil => 1
  | .ptr d => uptoBulk d + 1
  | .slice elems spare => uptoBulkAll elems + uptoBulkAll spare + 1
  | .agg parts => uptoBulkAll parts + 1
  | .iface _ d => uptoBulk d + 1
  | .map entries => uptoBulkEntries entries + 1
  | .held _ => 1
def uptoBulkAll {H : Type} : List (DataW H) → Nat
  | [] => 0
  | d :: r => uptoBulk d + uptoBulkAll r
def uptoBulkEntries {H : Type} : List (Lit × DataW H) → Nat
  | [] => 0
  | x :: r => uptoBulkEntry x + uptoBulkEntries r
def uptoBulkEntry {H : Type} : Lit × DataW H → Nat
  | (.string bytes, d) => bytes.length + uptoBulk d + 1
  | (_, d) => uptoBulk d + 1
 end
def uptoSmall : (H : Type) → List (DataW H) → Bool := fun _ ds => decide (uptoBulkAll ds ≤ 1048576)
def OpenSpec.upto (s : _root_.Go.ChangeSpec) : _root_.Go.OpenSpec := { _root_.Go.OpenSpec.ofChange s with cond := some uptoSmall }

/-- 'belfrylaw07.WheelDue', WHERE WHAT IT READS IS OF BULK AT MOST 1048576: true; the input reads as it did. -/
def wheelDueUptoRow : OpenClaim := { program := "ytpmpclieclcbdaa", sum := "7eaee69fe3547b3d13688ff37db96e481373861b5b413d5c3a1f7ebe0a350b0f", func := "belfry/belfrylaw07.WheelDue", spec := "wheelDue", unfollowed := true, recurses := true, apart := false, narrowed := true }
def WheelDueUptoSaid : Prop := wheelDueUptoRow.holds Try.pinned (OpenSpec.upto wheelDueSpec)

/-- 'belfrylaw07.WheelMoves', WHERE WHAT IT READS IS OF BULK AT MOST 1048576: true; the input reads as it did. -/
def wheelMovesUptoRow : OpenClaim := { program := "ytpmpclieclcbdaa", sum := "7eaee69fe3547b3d13688ff37db96e481373861b5b413d5c3a1f7ebe0a350b0f", func := "belfry/belfrylaw07.WheelMoves", spec := "wheelMoves", unfollowed := true, recurses := true, apart := false, narrowed := true }
def WheelMovesUptoSaid : Prop := wheelMovesUptoRow.holds Try.pinned (OpenSpec.upto wheelMovesSpec)

/-- 'belfrylaw07.WheelPlays', WHERE WHAT IT READS IS OF BULK AT MOST 1048576: true; the input reads as it did. -/
def wheelPlaysUptoRow : OpenClaim := { program := "ytpmpclieclcbdaa", sum := "7eaee69fe3547b3d13688ff37db96e481373861b5b413d5c3a1f7ebe0a350b0f", func := "belfry/belfrylaw07.WheelPlays", spec := "wheelPlays", unfollowed := true, recurses := true, apart := false, narrowed := true }
def WheelPlaysUptoSaid : Prop := wheelPlaysUptoRow.holds Try.pinned (OpenSpec.upto wheelPlaysSpec)

/-- 'belfrylaw07.WheelLeaps', WHERE WHAT IT READS IS OF BULK AT MOST 1048576: true; the input reads as it did. -/
def wheelLeapsUptoRow : OpenClaim := { program := "ytpmpclieclcbdaa", sum := "7eaee69fe3547b3d13688ff37db96e481373861b5b413d5c3a1f7ebe0a350b0f", func := "belfry/belfrylaw07.WheelLeaps", spec := "wheelLeaps", unfollowed := true, recurses := true, apart := false, narrowed := true }
def WheelLeapsUptoSaid : Prop := wheelLeapsUptoRow.holds Try.pinned (OpenSpec.upto wheelLeapsSpec)

/-- 'belfrylaw07.WheelStands', WHERE WHAT IT READS IS OF BULK AT MOST 1048576: true; the input reads as it did. -/
def wheelStandsUptoRow : OpenClaim := { program := "ytpmpclieclcbdaa", sum := "7eaee69fe3547b3d13688ff37db96e481373861b5b413d5c3a1f7ebe0a350b0f", func := "belfry/belfrylaw07.WheelStands", spec := "wheelStands", unfollowed := true, recurses := true, apart := false, narrowed := true }
def WheelStandsUptoSaid : Prop := wheelStandsUptoRow.holds Try.pinned (OpenSpec.upto wheelStandsSpec)

/-- 'belfrylaw07.WheelNil', WHERE WHAT IT READS IS OF BULK AT MOST 1048576: true; the input reads as it did. -/
def wheelNilUptoRow : OpenClaim := { program := "ytpmpclieclcbdaa", sum := "7eaee69fe3547b3d13688ff37db96e481373861b5b413d5c3a1f7ebe0a350b0f", func := "belfry/belfrylaw07.WheelNil", spec := "wheelNil", unfollowed := true, recurses := true, apart := false, narrowed := true }
def WheelNilUptoSaid : Prop := wheelNilUptoRow.holds Try.pinned (OpenSpec.upto wheelNilSpec)

end Rows
end Go.Proofs.Ytpmpclieclcbdaa
