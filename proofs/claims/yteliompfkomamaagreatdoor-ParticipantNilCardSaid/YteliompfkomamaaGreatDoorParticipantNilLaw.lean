/- PROVED: the law 'ParticipantNil' (belfrylaw18), as a tied card: whatever the arguments, the call returns true, and the arguments read as they did: where the listed package variables hold what the program's text lays in them (the row's own condition). -/
import Derived.Test.YteliompfkomamaaGreatDoorParticipantNilRun
import Derived.Test.YteliompfkomamaaGreatDoorFits16
import Derived.Test.YteliompfkomamaaGreatDoorCards
import Derived.Test.YteliompfkomamaaGreatDoorTie
import Derived.ProofKit
import Derived.LaidMore
import Derived.OpenShut
import Derived.Stop.Joined
import Derived.SevenTiedAt
namespace Go.Proofs.YteliompfkomamaaGreatDoor
open Go.ChangeShapes Go.WideShapes Go.ChangeAt Go.RowKit

theorem Tryz.own : ownKnob Tryz.prog.godebug = none := by kernel_rfl
theorem Tryz.laidOut : laidOutB Tryz.prog = true := by kernel_rfl

theorem law_readable : (Tryz.f3.params.toList.all fun t => Tryz.prog.readableRec t && decide (t < Tryz.prog.types.size)) = true := by kernel_rfl
theorem law_params : Tryz.f3.params.toList = [26, 3] := by kernel_rfl
theorem law_stand : (Tryz.f3.params.toList.all fun t => !Tryz.prog.wantsStandIn t) = true := by kernel_rfl

abbrev lawLaid := Rows.participantNilRow.laid
theorem door_met (os : Os) (args : Array Value) : laidMetH Tryz.prog lawLaid ((World.doorLaid Tryz.prog 4000 os).forCall (fun _ _ => 0) ⟨#[], args, []⟩).memory :=
  laidMetH_of_parts (laidMet_of_run' 8 (by kernel_rfl) (by kernel_rfl)) (by kernel_rfl)

set_option maxRecDepth 100000 in
theorem law_lifted (os : Os) (started : os.Started) (H : Type) (enc : TypeId × Value → H) :
    ReturnsInHanded {} Tryz.checked os 3 .any (fun w args => (Rows.participantNilSpec.pre enc Tryz.prog Tryz.f3 [] false w args ∧ laidMetH Tryz.prog lawLaid w) ∧ sizedMet enc Tryz.prog Tryz.f3 (OpenSpec.ofChange Rows.participantNilSpec) false w args)
      (Rows.participantNilSpec.post enc Tryz.prog Tryz.f3 false true false false) := by
  refine returnsInHanded_of_change_and (C := Tryz.checked) (X := fun w _ => laidMetH Tryz.prog lawLaid w) (fun _ _ _ hh h => h.of_heap hh) Tryz.own started (by kernel_rfl) Tryz.func3
    (ChangeSpec.witness_shaped (enc := enc) (C := Tryz.checked) (os := os) (X := fun w _ => laidMetH Tryz.prog lawLaid w) false (World.doorLaid Tryz.prog 4000 os) #[.agg #[.int .i64 0, .int .i64 0, .int .i64 0, .int .i64 0, .slice none 0 0, .slice none 0 0], .int .i64 0] 8 rfl (World.shaped_of_RefB (by kernel_rfl) (by kernel_rfl)) (by kernel_rfl) (by kernel_rfl) (by kernel_rfl) (door_met os _)) ?_
  intro W base args ds gs before hval0 hW _ _ _ _
  have hval : ∀ (j : Nat) t v, Tryz.f3.params[j]? = some t → args[j]? = some v → Value.okWide Tryz.prog W .any base t v := hval0
  have hW' := hW
  obtain ⟨p, q, hA0, hV, rfl, hfz, hnd⟩ := hW
  have hA : DataW.TrodAll enc Tryz.prog W 0 (fun _ => true) true Tryz.f3.params.toList args.toList ds p := hA0
  rw [law_params] at hA
  obtain ⟨v0, l0, d0, k0, p0, q0, ea, rfl, rfl, h0, hA⟩ := trodAll_cons hA
  obtain ⟨v1, l1, d1, k1, p1, q1, rfl, rfl, rfl, h1, hA⟩ := trodAll_cons hA
  obtain ⟨rfl, rfl, rfl⟩ := trodAll_nil hA
  have hargs : args = #[v0, v1] := Array.ext' ea
  subst hargs
  obtain ⟨⟨cs0⟩, rfl, _⟩ := okWide_struct Tryz.underlying26 (hval 0 26 _ rfl rfl)
  obtain ⟨fuel0, hf0⟩ := h0
  have hr0 : Go.AE.LR (Go.AE.LeafOK enc Tryz.prog W 0 true) [.int .i64, .int .i64, .int .i64, .int .i64, .slice 3, .slice 52] cs0 := Go.AE.leaves_sound enc Tryz.prog W 0 true 8 26 _ (by kernel_rfl) (by kernel_rfl) _ _ _ hf0
  obtain ⟨c0_0, z0, rfl, g0_0, hr0⟩ := hr0.uncons
  obtain ⟨c0_1, z0, rfl, g0_1, hr0⟩ := hr0.uncons
  obtain ⟨c0_2, z0, rfl, g0_2, hr0⟩ := hr0.uncons
  obtain ⟨c0_3, z0, rfl, g0_3, hr0⟩ := hr0.uncons
  obtain ⟨c0_4, z0, rfl, g0_4, hr0⟩ := hr0.uncons
  obtain ⟨c0_5, z0, rfl, g0_5, hr0⟩ := hr0.uncons
  cases hr0.unnil
  obtain ⟨n0_0, rfl⟩ := g0_0
  obtain ⟨n0_1, rfl⟩ := g0_1
  obtain ⟨n0_2, rfl⟩ := g0_2
  obtain ⟨n0_3, rfl⟩ := g0_3
  have r0_4 := Go.AE.slice_raw g0_4
  have r0_5 := Go.AE.slice_raw g0_5
  obtain ⟨nn1, rfl⟩ := okWide_int Tryz.underlying3 (hval 1 3 _ rfl rfl)
  obtain ⟨fuel1, hf1⟩ := h1
  have hr1 : Go.AE.LR (Go.AE.LeafOK enc Tryz.prog W 0 true) [.int .i64] [_] := Go.AE.leaves_sound enc Tryz.prog W 0 true 8 3 _ (by kernel_rfl) (by kernel_rfl) _ _ _ hf1
  obtain ⟨c1_0, z1, e1_0, g1_0, hr1⟩ := hr1.uncons
  cases e1_0
  cases hr1.unnil
  skip
  have hrel : Go.AE.VsRel (Go.AE.rawRen [.int .i64 n0_0, .int .i64 n0_1, .int .i64 n0_2, .int .i64 n0_3, c0_4, c0_5, .int .i64 nn1]) [.agg #[.chan (some 0), .chan (some 1), .chan (some 2), .chan (some 3), .chan (some 4), .chan (some 5)], .chan (some 6)] _ := .cons (Go.AE.VRel.agg_of (l := [.chan (some 0), .chan (some 1), .chan (some 2), .chan (some 3), .chan (some 4), .chan (some 5)]) (.cons (Go.AE.raw_cell rfl rfl) (.cons (Go.AE.raw_cell rfl rfl) (.cons (Go.AE.raw_cell rfl rfl) (.cons (Go.AE.raw_cell rfl rfl) (.cons (Go.AE.raw_cell rfl r0_4) (.cons (Go.AE.raw_cell rfl r0_5) .nil))))))) (.cons (Go.AE.raw_cell rfl rfl) .nil)
  have hhook := Go.AE.hookB_ok (P := Tryz.prog) (tab := tab) (W := W) (raws := [.int .i64 n0_0, .int .i64 n0_1, .int .i64 n0_2, .int .i64 n0_3, c0_4, c0_5, .int .i64 nn1]) (F := 4) (vargs := [.agg #[.chan (some 0), .chan (some 1), .chan (some 2), .chan (some 3), .chan (some 4), .chan (some 5)]]) (actual := #[_]) rfl (.cons (Go.AE.VRel.agg_of (l := [.chan (some 0), .chan (some 1), .chan (some 2), .chan (some 3), .chan (some 4), .chan (some 5)]) (.cons (Go.AE.raw_cell rfl rfl) (.cons (Go.AE.raw_cell rfl rfl) (.cons (Go.AE.raw_cell rfl rfl) (.cons (Go.AE.raw_cell rfl rfl) (.cons (Go.AE.raw_cell rfl r0_4) (.cons (Go.AE.raw_cell rfl r0_5) .nil))))))) .nil) (fun w hb => by
    obtain ⟨an, ln, cn, hn⟩ := Go.AE.slice_form g0_4
    obtain ⟨ac, lc, cc, hc⟩ := Go.AE.slice_form g0_5
    have hch := (changes_open g0_5).later hb
    subst hn hc
    exact msg_any _ _ _ _ _ _ _ _ _ _ w hch)
  refine (Go.AE.calls_true (P := Tryz.prog) tab_ok (by kernel_rfl) hhook (args' := #[_, _]) hrel (by rw [Go.AE.run_F]; exact law_run)).mono ?_
  rintro e W' ⟨he, hbel⟩
  have hread : ∀ t ∈ Tryz.f3.params.toList, Tryz.prog.readableRec t = true ∧ t < Tryz.prog.types.size := fun t ht => by
    have := List.all_eq_true.1 law_readable t ht
    rw [Bool.and_eq_true] at this
    exact ⟨this.1, of_decide_eq_true this.2⟩
  exact ⟨_, he, Go.AE.law_post Tryz.laidOut hread hW' rfl hbel rfl (t := 4) Tryz.underlying4 (fun h => by rw [h]; rfl)⟩

theorem fact_named : Tryz.prog.funcNamed Rows.participantNilRow.func = some 3 := by kernel_rfl
theorem fact_inst : Tryz.f3.isInstance Tryz.prog Rows.participantNilRow.origin Rows.participantNilRow.targs := of_decide_eq_true (by kernel_rfl)
theorem fact_wrap : Tryz.f3.isWrapper Tryz.prog Rows.participantNilRow.wrapper Rows.participantNilRow.mainSum := by
  unfold Func.isWrapper
  first | (rw [if_pos (by decide +kernel)]; kernel_rfl) | (rw [if_neg (by decide +kernel)]; exact ⟨rfl, rfl⟩)
theorem fact_joined : joinedFacts Tryz.prog 3 Tryz.f3 Rows.participantNilSpec Rows.participantNilRow = true := by kernel_rfl

theorem law_holds : Rows.ParticipantNilSaid :=
  OpenClaim.holds_of_wide 3 Tryz.f3 rfl rfl rfl rfl rfl rfl rfl ⟨rfl, rfl, rfl, rfl, rfl⟩ rfl rfl rfl rfl rfl fact_named Tryz.func3 fact_joined fact_inst fact_wrap
    (fun os started H enc _ => law_lifted os started H enc)

theorem law_card : Rows.ParticipantNilCardSaid :=
  Claim7.holds_tied_plain_at .later [] [.data, .data, .data, .sentinel, .sentinel] true (true, "ac2f8b927725cdc92e291a6f43169487df49c8e6315b3fff31babc47612f1d83") true
    law_holds (fun _ h => by cases h) (by kernel_rfl) (fun _ h => by cases h) participantNil_row_tie rfl ⟨rfl, rfl⟩ (by kernel_rfl) rfl
    (fun f fn hf hfn => by
      obtain rfl : f = 3 := Option.some.inj ((show Tryz.prog.funcNamed "belfry/belfrylaw18.ParticipantNil" = some 3 by kernel_rfl).symm.trans hf) |>.symm
      obtain rfl : fn = Tryz.f3 := (Option.some.inj (Tryz.func3.symm.trans hfn)).symm
      exact ⟨by kernel_rfl, fun j t ht => by
        have hm : t ∈ Tryz.f3.params.toList := by
          rw [← Array.getElem?_toList] at ht
          exact List.mem_of_getElem? ht
        have := List.all_eq_true.1 law_stand t hm
        exact (by simpa using this : Tryz.prog.wantsStandIn t = false)⟩)
    (by kernel_rfl)

#print axioms law_card
end Go.Proofs.YteliompfkomamaaGreatDoor
