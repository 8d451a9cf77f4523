/- PROVED: the law 'JournalNil' (belfrylaw15), as a tied card: whatever the arguments, the call returns true, and the arguments read as they did: where the listed package variables hold what the program's text lays in them (the row's own condition). -/
import Derived.Test.YteliompfkomamabGreatDoorJournalNilRun
import Derived.Test.YteliompfkomamabGreatDoorFits15
import Derived.Test.YteliompfkomamabGreatDoorCards
import Derived.Test.YteliompfkomamabGreatDoorTie
import Derived.ProofKit
import Derived.LaidMore
import Derived.OpenShut
import Derived.Stop.Joined
import Derived.SevenTiedAt
namespace Go.Proofs.YteliompfkomamabGreatDoor
open Go.ChangeShapes Go.WideShapes Go.ChangeAt Go.RowKit

theorem Tryz.own : ownKnob Tryz.prog.godebug = none := by kernel_rfl
theorem Tryz.laidOut : laidOutB Tryz.prog = true := by kernel_rfl

theorem law_readable : (Tryz.f3.params.toList.all fun t => Tryz.prog.readableRec t && decide (t < Tryz.prog.types.size)) = true := by kernel_rfl
theorem law_params : Tryz.f3.params.toList = [30] := by kernel_rfl
theorem law_stand : (Tryz.f3.params.toList.all fun t => !Tryz.prog.wantsStandIn t) = true := by kernel_rfl

abbrev lawLaid := Rows.journalNilRow.laid
theorem door_met (os : Os) (args : Array Value) : laidMetH Tryz.prog lawLaid ((World.doorLaid Tryz.prog 4000 os).forCall (fun _ _ => 0) ⟨#[], args, []⟩).memory :=
  laidMetH_of_parts (laidMet_of_run' 8 (by kernel_rfl) (by kernel_rfl)) (by kernel_rfl)

set_option maxRecDepth 100000 in
theorem law_lifted (os : Os) (started : os.Started) (H : Type) (enc : TypeId × Value → H) :
    ReturnsInHanded {} Tryz.checked os 3 .any (fun w args => (Rows.journalNilSpec.pre enc Tryz.prog Tryz.f3 [] false w args ∧ laidMetH Tryz.prog lawLaid w) ∧ sizedMet enc Tryz.prog Tryz.f3 (OpenSpec.ofChange Rows.journalNilSpec) false w args)
      (Rows.journalNilSpec.post enc Tryz.prog Tryz.f3 false true false false) := by
  refine returnsInHanded_of_change_and (C := Tryz.checked) (X := fun w _ => laidMetH Tryz.prog lawLaid w) (fun _ _ _ hh h => h.of_heap hh) Tryz.own started (by kernel_rfl) Tryz.func3
    (ChangeSpec.witness_shaped (enc := enc) (C := Tryz.checked) (os := os) (X := fun w _ => laidMetH Tryz.prog lawLaid w) false (World.doorLaid Tryz.prog 4000 os) #[.agg #[.int .i64 0, .int .i64 0, .bool false, .slice none 0 0, .slice none 0 0, .string ⟨#[]⟩, .int .i64 0, .int .u64 0, .int .u64 0, .slice none 0 0, .int .u64 0, .slice none 0 0, .slice none 0 0]] 8 rfl (World.shaped_of_RefB (by kernel_rfl) (by kernel_rfl)) (by kernel_rfl) (by kernel_rfl) (by kernel_rfl) (door_met os _)) ?_
  intro W base args ds gs before hval0 hW _ _ _ _
  have hval : ∀ (j : Nat) t v, Tryz.f3.params[j]? = some t → args[j]? = some v → Value.okWide Tryz.prog W .any base t v := hval0
  have hW' := hW
  obtain ⟨p, q, hA0, hV, rfl, hfz, hnd⟩ := hW
  have hA : DataW.TrodAll enc Tryz.prog W 0 (fun _ => true) true Tryz.f3.params.toList args.toList ds p := hA0
  rw [law_params] at hA
  obtain ⟨v0, l0, d0, k0, p0, q0, ea, rfl, rfl, h0, hA⟩ := trodAll_cons hA
  obtain ⟨rfl, rfl, rfl⟩ := trodAll_nil hA
  have hargs : args = #[v0] := Array.ext' ea
  subst hargs
  obtain ⟨⟨cs0⟩, rfl, _⟩ := okWide_struct Tryz.underlying30 (hval 0 30 _ rfl rfl)
  obtain ⟨fuel0, hf0⟩ := h0
  have hr0 : Go.AE.LR (Go.AE.LeafOK enc Tryz.prog W 0 true) [.int .i64, .int .i64, .bool, .slice 3, .slice 61, .str, .int .i64, .int .u64, .int .u64, .slice 59, .int .u64, .slice 3, .slice 5] cs0 := Go.AE.leaves_sound enc Tryz.prog W 0 true 8 30 _ (by kernel_rfl) (by kernel_rfl) _ _ _ hf0
  obtain ⟨c0_0, z0, rfl, g0_0, hr0⟩ := hr0.uncons
  obtain ⟨c0_1, z0, rfl, g0_1, hr0⟩ := hr0.uncons
  obtain ⟨c0_2, z0, rfl, g0_2, hr0⟩ := hr0.uncons
  obtain ⟨c0_3, z0, rfl, g0_3, hr0⟩ := hr0.uncons
  obtain ⟨c0_4, z0, rfl, g0_4, hr0⟩ := hr0.uncons
  obtain ⟨c0_5, z0, rfl, g0_5, hr0⟩ := hr0.uncons
  obtain ⟨c0_6, z0, rfl, g0_6, hr0⟩ := hr0.uncons
  obtain ⟨c0_7, z0, rfl, g0_7, hr0⟩ := hr0.uncons
  obtain ⟨c0_8, z0, rfl, g0_8, hr0⟩ := hr0.uncons
  obtain ⟨c0_9, z0, rfl, g0_9, hr0⟩ := hr0.uncons
  obtain ⟨c0_10, z0, rfl, g0_10, hr0⟩ := hr0.uncons
  obtain ⟨c0_11, z0, rfl, g0_11, hr0⟩ := hr0.uncons
  obtain ⟨c0_12, z0, rfl, g0_12, hr0⟩ := hr0.uncons
  cases hr0.unnil
  obtain ⟨n0_0, rfl⟩ := g0_0
  obtain ⟨n0_1, rfl⟩ := g0_1
  obtain ⟨b0_2, rfl⟩ := g0_2
  have r0_3 := Go.AE.slice_raw g0_3
  have r0_4 := Go.AE.slice_raw g0_4
  obtain ⟨n0_5, rfl, _⟩ := g0_5
  obtain ⟨n0_6, rfl⟩ := g0_6
  obtain ⟨n0_7, rfl⟩ := g0_7
  obtain ⟨n0_8, rfl⟩ := g0_8
  have r0_9 := Go.AE.slice_raw g0_9
  obtain ⟨n0_10, rfl⟩ := g0_10
  have r0_11 := Go.AE.slice_raw g0_11
  have r0_12 := Go.AE.slice_raw g0_12
  have hrel : Go.AE.VsRel (Go.AE.rawRen [.int .i64 n0_0, .int .i64 n0_1, .bool b0_2, c0_3, c0_4, .string n0_5, .int .i64 n0_6, .int .u64 n0_7, .int .u64 n0_8, c0_9, .int .u64 n0_10, c0_11, c0_12]) [.agg #[.chan (some 0), .chan (some 1), .bool b0_2, .chan (some 3), .chan (some 4), .chan (some 5), .chan (some 6), .chan (some 7), .chan (some 8), .chan (some 9), .chan (some 10), .chan (some 11), .chan (some 12)]] _ := .cons (Go.AE.VRel.agg_of (l := [.chan (some 0), .chan (some 1), .bool b0_2, .chan (some 3), .chan (some 4), .chan (some 5), .chan (some 6), .chan (some 7), .chan (some 8), .chan (some 9), .chan (some 10), .chan (some 11), .chan (some 12)]) (.cons (Go.AE.raw_cell rfl rfl) (.cons (Go.AE.raw_cell rfl rfl) (.cons (.bool _) (.cons (Go.AE.raw_cell rfl r0_3) (.cons (Go.AE.raw_cell rfl r0_4) (.cons (Go.AE.raw_cell rfl rfl) (.cons (Go.AE.raw_cell rfl rfl) (.cons (Go.AE.raw_cell rfl rfl) (.cons (Go.AE.raw_cell rfl rfl) (.cons (Go.AE.raw_cell rfl r0_9) (.cons (Go.AE.raw_cell rfl rfl) (.cons (Go.AE.raw_cell rfl r0_11) (.cons (Go.AE.raw_cell rfl r0_12) .nil)))))))))))))) .nil
  have hhook := Go.AE.hookB_ok (P := Tryz.prog) (tab := tab) (W := W) (raws := [.int .i64 n0_0, .int .i64 n0_1, .bool b0_2, c0_3, c0_4, .string n0_5, .int .i64 n0_6, .int .u64 n0_7, .int .u64 n0_8, c0_9, .int .u64 n0_10, c0_11, c0_12]) (F := 4) (vargs := [.agg #[.chan (some 0), .chan (some 1), .bool b0_2, .chan (some 3), .chan (some 4), .chan (some 5), .chan (some 6), .chan (some 7), .chan (some 8), .chan (some 9), .chan (some 10), .chan (some 11), .chan (some 12)]]) (actual := #[_]) rfl (.cons (Go.AE.VRel.agg_of (l := [.chan (some 0), .chan (some 1), .bool b0_2, .chan (some 3), .chan (some 4), .chan (some 5), .chan (some 6), .chan (some 7), .chan (some 8), .chan (some 9), .chan (some 10), .chan (some 11), .chan (some 12)]) (.cons (Go.AE.raw_cell rfl rfl) (.cons (Go.AE.raw_cell rfl rfl) (.cons (.bool _) (.cons (Go.AE.raw_cell rfl r0_3) (.cons (Go.AE.raw_cell rfl r0_4) (.cons (Go.AE.raw_cell rfl rfl) (.cons (Go.AE.raw_cell rfl rfl) (.cons (Go.AE.raw_cell rfl rfl) (.cons (Go.AE.raw_cell rfl rfl) (.cons (Go.AE.raw_cell rfl r0_9) (.cons (Go.AE.raw_cell rfl rfl) (.cons (Go.AE.raw_cell rfl r0_11) (.cons (Go.AE.raw_cell rfl r0_12) .nil)))))))))))))) .nil) (fun w hb => by
    obtain ⟨an, ln, cn, hn⟩ := Go.AE.slice_form g0_3
    obtain ⟨ac, lc, cc, hc⟩ := Go.AE.slice_form g0_4
    obtain ⟨ab, lb, cb, hb2⟩ := Go.AE.slice_form g0_12
    have hch := (changes_open g0_4).later hb
    have hst := (steps_open g0_9).later hb
    subst hn hc hb2
    exact act_any _ _ _ _ _ _ _ _ _ _ _ _ _ _ _ _ _ _ _ w hch hst)
  refine (Go.AE.calls_true (P := Tryz.prog) tab_ok (by kernel_rfl) (Go.AE.orHook_ok (Go.AE.hookA_ok alive_calls) hhook) (args' := #[_]) hrel (by rw [Go.AE.run_F]; exact law_run b0_2)).mono ?_
  rintro e W' ⟨he, hbel⟩
  have hread : ∀ t ∈ Tryz.f3.params.toList, Tryz.prog.readableRec t = true ∧ t < Tryz.prog.types.size := fun t ht => by
    have := List.all_eq_true.1 law_readable t ht
    rw [Bool.and_eq_true] at this
    exact ⟨this.1, of_decide_eq_true this.2⟩
  exact ⟨_, he, Go.AE.law_post Tryz.laidOut hread hW' rfl hbel rfl (t := 4) Tryz.underlying4 (fun h => by rw [h]; rfl)⟩

theorem fact_named : Tryz.prog.funcNamed Rows.journalNilRow.func = some 3 := by kernel_rfl
theorem fact_inst : Tryz.f3.isInstance Tryz.prog Rows.journalNilRow.origin Rows.journalNilRow.targs := of_decide_eq_true (by kernel_rfl)
theorem fact_wrap : Tryz.f3.isWrapper Tryz.prog Rows.journalNilRow.wrapper Rows.journalNilRow.mainSum := by
  unfold Func.isWrapper
  first | (rw [if_pos (by decide +kernel)]; kernel_rfl) | (rw [if_neg (by decide +kernel)]; exact ⟨rfl, rfl⟩)
theorem fact_j1 : (Rows.journalNilRow.inPlace == Tryz.prog.inPlace 3) = true := by kernel_rfl
theorem fact_j2 : (Rows.journalNilRow.unfollowed == Tryz.prog.unfollowed 3) = true := by kernel_rfl
theorem fact_j3 : (Rows.journalNilRow.recurses == Tryz.prog.recurses 3) = true := by kernel_rfl
theorem fact_j4 : (Rows.journalNilRow.named == Tryz.prog.varsNamed 3) = true := by kernel_rfl
theorem fact_j5 : mapsRowed Tryz.prog = true := by kernel_rfl
theorem fact_joined : joinedFacts Tryz.prog 3 Tryz.f3 Rows.journalNilSpec Rows.journalNilRow = true := by
  unfold joinedFacts
  rw [fact_j1, fact_j2, fact_j3, fact_j4, fact_j5, Tryz.laidOut]
  kernel_rfl

theorem law_holds : Rows.JournalNilSaid :=
  OpenClaim.holds_of_wide 3 Tryz.f3 rfl rfl rfl rfl rfl rfl rfl ⟨rfl, rfl, rfl, rfl, rfl⟩ rfl rfl rfl rfl rfl fact_named Tryz.func3 fact_joined fact_inst fact_wrap
    (fun os started H enc _ => law_lifted os started H enc)

theorem law_card : Rows.JournalNilCardSaid :=
  Claim7.holds_tied_plain_at .later [] [.data, .data, .data, .sentinel, .sentinel] true (true, "76551f1a298bfd196be12ee66d7a094fcbd27a860dffb82dd4f4b8877a85881c") true
    law_holds (fun _ h => by cases h) (by kernel_rfl) (fun _ h => by cases h) journalNil_row_tie rfl ⟨rfl, rfl⟩ (by kernel_rfl) rfl
    (fun f fn hf hfn => by
      obtain rfl : f = 3 := Option.some.inj ((show Tryz.prog.funcNamed "belfry/belfrylaw15.JournalNil" = some 3 by kernel_rfl).symm.trans hf) |>.symm
      obtain rfl : fn = Tryz.f3 := (Option.some.inj (Tryz.func3.symm.trans hfn)).symm
      exact ⟨by kernel_rfl, fun j t ht => by
        have hm : t ∈ Tryz.f3.params.toList := by
          rw [← Array.getElem?_toList] at ht
          exact List.mem_of_getElem? ht
        have := List.all_eq_true.1 law_stand t hm
        exact (by simpa using this : Tryz.prog.wantsStandIn t = false)⟩)
    (by kernel_rfl)

#print axioms law_card
end Go.Proofs.YteliompfkomamabGreatDoor
