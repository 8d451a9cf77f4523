/- The law 'CommitNil', lifted to its row: every run returns true. -/
import Derived.Test.YthacgilphddekaaGreatDoorCommitNilRun
import Derived.Test.YthacgilphddekaaGreatDoorFits20
import Derived.Test.YthacgilphddekaaGreatDoorOf20
import Derived.Test.YthacgilphddekaaGreatDoorCards
import Derived.Test.YthacgilphddekaaGreatDoorTie
import Derived.ProofKit
import Derived.LaidMore
import Derived.OpenShut
import Derived.Stop.Joined
import Derived.SevenTiedAt
namespace Go.Proofs.YthacgilphddekaaGreatDoor
open Go.ChangeShapes Go.WideShapes Go.ChangeAt Go.RowKit

theorem Tryz.own : ownKnob Tryz.prog.godebug = none := by kernel_rfl
theorem Tryz.laidOut : laidOutB Tryz.prog = true := by kernel_rfl

theorem law_readable : (Tryz.f5.params.toList.all fun t => Tryz.prog.readableRec t && decide (t < Tryz.prog.types.size)) = true := by kernel_rfl
theorem law_params : Tryz.f5.params.toList = [68] := by kernel_rfl
theorem law_stand : (Tryz.f5.params.toList.all fun t => !Tryz.prog.wantsStandIn t) = true := by kernel_rfl

abbrev lawLaid := Rows.commitNilRow.laid
theorem door_met (os : Os) (args : Array Value) : laidMetH Tryz.prog lawLaid ((World.doorLaid Tryz.prog 4000 os).forCall (fun _ _ => 0) ⟨#[], args, []⟩).memory :=
  laidMetH_of_parts (laidMet_of_run' 8 (by kernel_rfl) (by kernel_rfl)) (by kernel_rfl)

set_option maxRecDepth 100000 in
theorem law_lifted (os : Os) (started : os.Started) (H : Type) (enc : TypeId × Value → H) :
    ReturnsInHanded {} Tryz.checked os 5 .any (fun w args => (Rows.commitNilSpec.pre enc Tryz.prog Tryz.f5 [] false w args ∧ laidMetH Tryz.prog lawLaid w) ∧ sizedMet enc Tryz.prog Tryz.f5 (OpenSpec.ofChange Rows.commitNilSpec) false w args)
      (Rows.commitNilSpec.post enc Tryz.prog Tryz.f5 false true false false) := by
  refine returnsInHanded_of_change_and (C := Tryz.checked) (X := fun w _ => laidMetH Tryz.prog lawLaid w) (fun _ _ _ hh h => h.of_heap hh) Tryz.own started (by kernel_rfl) Tryz.func5
    (ChangeSpec.witness_shaped (enc := enc) (C := Tryz.checked) (os := os) (X := fun w _ => laidMetH Tryz.prog lawLaid w) false (World.doorLaid Tryz.prog 4000 os) #[.agg #[.int .i64 0, .int .i64 0, .int .i64 0, .int .i64 0, .int .i64 0, .slice none 0 0, .slice none 0 0, .slice none 0 0]] 8 rfl (World.shaped_of_RefB (by kernel_rfl) (by kernel_rfl)) (by kernel_rfl) (by kernel_rfl) (by kernel_rfl) (door_met os _)) ?_
  intro W base args ds gs before hval0 hW _ _ _ _
  have hval : ∀ (j : Nat) t v, Tryz.f5.params[j]? = some t → args[j]? = some v → Value.okWide Tryz.prog W .any base t v := hval0
  have hW' := hW
  obtain ⟨p, q, hA0, hV, rfl, hfz, hnd⟩ := hW
  have hA : DataW.TrodAll enc Tryz.prog W 0 (fun _ => true) true Tryz.f5.params.toList args.toList ds p := hA0
  rw [law_params] at hA
  obtain ⟨v0, l0, d0, k0, p0, q0, ea, rfl, rfl, h0, hA⟩ := trodAll_cons hA
  obtain ⟨rfl, rfl, rfl⟩ := trodAll_nil hA
  have hargs : args = #[v0] := Array.ext' ea
  subst hargs
  obtain ⟨⟨cs0⟩, rfl, _⟩ := okWide_struct Tryz.underlying68 (hval 0 68 _ rfl rfl)
  obtain ⟨fuel0, hf0⟩ := h0
  have hr0 : Go.AE.LR (Go.AE.LeafOK enc Tryz.prog W 0 true) [.int .i64, .int .i64, .int .i64, .int .i64, .int .i64, .slice 55, .slice 3, .slice 3] cs0 := Go.AE.leaves_sound enc Tryz.prog W 0 true 8 68 _ (by kernel_rfl) (by kernel_rfl) _ _ _ hf0
  obtain ⟨c0_0, z0, rfl, g0_0, hr0⟩ := hr0.uncons
  obtain ⟨c0_1, z0, rfl, g0_1, hr0⟩ := hr0.uncons
  obtain ⟨c0_2, z0, rfl, g0_2, hr0⟩ := hr0.uncons
  obtain ⟨c0_3, z0, rfl, g0_3, hr0⟩ := hr0.uncons
  obtain ⟨c0_4, z0, rfl, g0_4, hr0⟩ := hr0.uncons
  obtain ⟨c0_5, z0, rfl, g0_5, hr0⟩ := hr0.uncons
  obtain ⟨c0_6, z0, rfl, g0_6, hr0⟩ := hr0.uncons
  obtain ⟨c0_7, z0, rfl, g0_7, hr0⟩ := hr0.uncons
  cases hr0.unnil
  obtain ⟨n0_0, rfl⟩ := g0_0
  obtain ⟨n0_1, rfl⟩ := g0_1
  obtain ⟨n0_2, rfl⟩ := g0_2
  obtain ⟨n0_3, rfl⟩ := g0_3
  obtain ⟨n0_4, rfl⟩ := g0_4
  have r0_5 := Go.AE.slice_raw g0_5
  have r0_6 := Go.AE.slice_raw g0_6
  have r0_7 := Go.AE.slice_raw g0_7
  have hrel : Go.AE.VsRel (Go.AE.rawRen [.int .i64 n0_0, .int .i64 n0_1, .int .i64 n0_2, .int .i64 n0_3, .int .i64 n0_4, c0_5, c0_6, c0_7]) [.agg #[.chan (some 0), .chan (some 1), .chan (some 2), .chan (some 3), .chan (some 4), .chan (some 5), .chan (some 6), .chan (some 7)]] _ := .cons (Go.AE.VRel.agg_of (l := [.chan (some 0), .chan (some 1), .chan (some 2), .chan (some 3), .chan (some 4), .chan (some 5), .chan (some 6), .chan (some 7)]) (.cons (Go.AE.raw_cell rfl rfl) (.cons (Go.AE.raw_cell rfl rfl) (.cons (Go.AE.raw_cell rfl rfl) (.cons (Go.AE.raw_cell rfl rfl) (.cons (Go.AE.raw_cell rfl rfl) (.cons (Go.AE.raw_cell rfl r0_5) (.cons (Go.AE.raw_cell rfl r0_6) (.cons (Go.AE.raw_cell rfl r0_7) .nil))))))))) .nil
  have hhook1 := Go.AE.hookV_ok (P := Tryz.prog) (tab := tab) (W := W) (raws := [.int .i64 n0_0, .int .i64 n0_1, .int .i64 n0_2, .int .i64 n0_3, .int .i64 n0_4, c0_5, c0_6, c0_7]) (F := 36) (vargs := [.pointer none, .chan (some 2)]) (r := .tuple #[.pointer none, .int .i64 1]) (actual := #[.pointer none, .int .i64 n0_2]) rfl rfl (.cons .nilPtr (.cons (Go.AE.raw_cell rfl rfl) .nil)) (fun w _ => of_nil _ w)
  have hhook0 := Go.AE.hookB_ok (P := Tryz.prog) (tab := tab) (W := W) (raws := [.int .i64 n0_0, .int .i64 n0_1, .int .i64 n0_2, .int .i64 n0_3, .int .i64 n0_4, c0_5, c0_6, c0_7]) (F := 24) (vargs := [.chan (some 5)]) (actual := #[_]) rfl (.cons (Go.AE.raw_cell rfl r0_5) .nil) (fun w hb => few_any _ w ((shares_open g0_5).later hb))
  have hhook : Go.AE.HookOK (Go.AE.roadRaw [.int .i64 n0_0, .int .i64 n0_1, .int .i64 n0_2, .int .i64 n0_3, .int .i64 n0_4, c0_5, c0_6, c0_7] W) (Go.AE.envOf Tryz.prog tab (Go.AE.orHook (Go.AE.hookB 24 [.chan (some 5)]) (Go.AE.hookV 36 [.pointer none, .chan (some 2)] (.tuple #[.pointer none, .int .i64 1])))) Tryz.prog := (Go.AE.orHook_ok hhook0 hhook1)
  refine (Go.AE.calls_true (P := Tryz.prog) tab_ok (by kernel_rfl) (Go.AE.orHook_ok (Go.AE.hookA_ok alive_calls) hhook) (args' := #[_]) hrel (by rw [Go.AE.run_F]; exact law_run)).mono ?_
  rintro e W' ⟨he, hbel⟩
  have hread : ∀ t ∈ Tryz.f5.params.toList, Tryz.prog.readableRec t = true ∧ t < Tryz.prog.types.size := fun t ht => by
    have := List.all_eq_true.1 law_readable t ht
    rw [Bool.and_eq_true] at this
    exact ⟨this.1, of_decide_eq_true this.2⟩
  exact ⟨_, he, Go.AE.law_post Tryz.laidOut hread hW' rfl hbel rfl (t := 4) Tryz.underlying4 (fun h => by rw [h]; rfl)⟩

end Go.Proofs.YthacgilphddekaaGreatDoor
