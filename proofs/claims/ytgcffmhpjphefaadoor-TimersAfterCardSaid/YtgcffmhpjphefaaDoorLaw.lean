/- PROVED: the law 'TimersAfter' (belfrylaw10), as a tied card: whatever the timer, the clock and the number of firings, the call returns true, and the arguments read as they did: where the listed package variables hold what the program's text lays in them (the row's own condition). -/
import Derived.Test.YtgcffmhpjphefaaDoorP06
import Derived.Test.YtgcffmhpjphefaaDoorCards
import Derived.Test.YtgcffmhpjphefaaDoorTie
import Derived.LaidMore
import Derived.OpenShut
import Derived.Stop.Joined
import Derived.SevenTiedAt
set_option linter.unusedSimpArgs false
set_option linter.unusedVariables false
set_option linter.unusedSectionVars false
namespace Go.Proofs.YtgcffmhpjphefaaDoor
open Go Go.AE Go.ChangeShapes Go.WideShapes Go.ChangeAt Go.RowKit Go.Joins Go.Deep

set_option maxRecDepth 100000
theorem after_calls {W : World} {t : TimD} {dv : Value} {now : Nat} {n : Int} (h : StepsAt W dv t.steps) (ha : t.at_ < 18446744073709551616) (he : t.every < 18446744073709551616) (hn : now < 18446744073709551616) :
    Calls Tryd.prog 3 #[tval t dv, .int .u64 (now : Int), .int .i64 n] W fun e w' => e = .returned (.bool true) ∧ Below W.heap.size W w' := by
  obtain ⟨x, sv, hx, hr, hv, hs⟩ := steps_span h []
  have hlie : Lie [x] W := by
    intro y hy
    rw [List.mem_singleton.1 hy]
    exact hx
  refine calls_ro_true (s := [x]) (args := [tval t sv, .int .u64 (now : Int), .int .i64 n]) (.cons (VRel.agg_of (l := tcell t sv) (r := tcell t dv) (.cons (.string _) (.cons (.int _ _) (.cons (.int _ _) (.cons (.int _ _) (.cons (hv []) .nil)))))) (.cons (.int _ _) (.cons (.int _ _) .nil))) ?_
  exact after_walk (roadS hlie) (S := fun b => b = 0) (hs [] _ (fun b _ => rfl) (by show 0 < 1; omega)) ha he hn

theorem readable_after : ∀ t ∈ Tryd.f3.params.toList, Tryd.prog.readableRec t = true ∧ t < Tryd.prog.types.size := by
  intro t ht
  rw [Tryd.params3] at ht
  simp at ht
  rcases ht with rfl | rfl | rfl <;> exact ⟨by kernel_rfl, of_decide_eq_true (by kernel_rfl)⟩

abbrev laid3 := Rows.timersAfterRow.laid
theorem door_met (os : Os) (args : Array Value) : laidMetH Tryd.prog laid3 ((World.doorLaid Tryd.prog 4000 os).forCall (fun _ _ => 0) ⟨#[], args, []⟩).memory :=
  laidMetH_of_parts (laidMet_of_run' 8 (by kernel_rfl) (by kernel_rfl)) (by kernel_rfl)

theorem after_lifted (os : Os) (started : os.Started) (H : Type) (enc : TypeId × Value → H) :
    ReturnsInHanded {} Tryd.checked os 3 .any (fun w args => (Rows.timersAfterSpec.pre enc Tryd.prog Tryd.f3 [] false w args ∧ laidMetH Tryd.prog laid3 w) ∧ sizedMet enc Tryd.prog Tryd.f3 (OpenSpec.ofChange Rows.timersAfterSpec) false w args)
      (Rows.timersAfterSpec.post enc Tryd.prog Tryd.f3 false true false false) := by
  refine returnsInHanded_of_change_and (C := Tryd.checked) (X := fun w _ => laidMetH Tryd.prog laid3 w) (fun _ _ _ hh h => h.of_heap hh) Tryd.own started (by kernel_rfl) Tryd.func3
    (ChangeSpec.witness_shaped (enc := enc) (C := Tryd.checked) (os := os) (X := fun w _ => laidMetH Tryd.prog laid3 w) false (World.doorLaid Tryd.prog 4000 os) #[.agg #[.string ⟨#[]⟩, .int .i64 0, .int .u64 0, .int .u64 0, .slice none 0 0], .int .u64 0, .int .i64 0] 8 rfl (World.shaped_of_RefB (by kernel_rfl) (by kernel_rfl)) (by kernel_rfl) (by kernel_rfl) (by kernel_rfl) (door_met os _)) ?_
  intro W base args ds gs before hval0 hW _ _ _ _
  have hval : ∀ (j : Nat) t v, Tryd.f3.params[j]? = some t → args[j]? = some v → Value.okWide Tryd.prog W .any base t v := hval0
  have hW' := hW
  obtain ⟨p, q, hA0, hV, rfl, hfz, hnd⟩ := hW
  have hA : DataW.TrodAll enc Tryd.prog W 0 (fun _ => true) true Tryd.f3.params.toList args.toList ds p := hA0
  rw [Tryd.params3] at hA hval
  obtain ⟨v0, v1, v2, d0, d1, d2, p0, p1, p2, rfl, rfl, rfl, t0, t1, t2⟩ := trodAll_three hA
  obtain ⟨now, rfl, rfl, rfl, wn⟩ := open_int Tryd.underlying22 (hval 1 22 v1 rfl rfl) t1
  obtain ⟨k, rfl, rfl, rfl, wk⟩ := open_int Tryd.underlying3 (hval 2 3 v2 rfl rfl) t2
  obtain ⟨m, rfl, hm⟩ := wf_u64 wn
  obtain ⟨t, dv, rfl, hs, _, ha, he, _⟩ := open_timer (hval 0 25 v0 rfl rfl) t0
  refine (after_calls hs ha he hm).mono ?_
  rintro e W' ⟨he', hbel⟩
  exact ⟨_, he', law_post Tryd.laidOut readable_after hW' rfl hbel rfl Tryd.underlying4 (fun h => by rw [h]; rfl)⟩

theorem after_holds : Rows.TimersAfterSaid :=
  OpenClaim.holds_of_wide 3 Tryd.f3 rfl rfl rfl rfl rfl rfl rfl ⟨rfl, rfl, rfl, rfl, rfl⟩ rfl rfl rfl rfl rfl (by kernel_rfl) Tryd.func3 (by kernel_rfl)
    (of_decide_eq_true (by kernel_rfl)) (by unfold Func.isWrapper; first | (rw [if_pos (by decide +kernel)]; kernel_rfl) | (rw [if_neg (by decide +kernel)]; exact ⟨rfl, rfl⟩))
    (fun os started H enc _ => after_lifted os started H enc)

theorem after_card : Rows.TimersAfterCardSaid :=
  Claim7.holds_tied_plain_at .later [] [.data, .data, .data] true (true, "4d74ff83a362e8f7fb419518048ca5cbabfd09e4df89121696b26680b9c8f556") true
    after_holds (fun _ h => by cases h) (by kernel_rfl) (fun _ h => by cases h) timersAfter_row_tie rfl ⟨rfl, rfl⟩ (by kernel_rfl) rfl
    (fun f fn hf hfn => by
      obtain rfl : f = 3 := Option.some.inj ((show Tryd.prog.funcNamed "belfry/belfrylaw10.TimersAfter" = some 3 by kernel_rfl).symm.trans hf) |>.symm
      obtain rfl : fn = Tryd.f3 := (Option.some.inj (Tryd.func3.symm.trans hfn)).symm
      exact ⟨by kernel_rfl, fun j t ht => by
        rw [Tryd.params3] at ht
        have h3 : t = 25 ∨ t = 22 ∨ t = 3 := by
          rcases j with _ | _ | _ | j
          · left; simpa using ht.symm
          · right; left; simpa using ht.symm
          · right; right; simpa using ht.symm
          · simp at ht
        rcases h3 with rfl | rfl | rfl
        · exact (show Tryd.prog.wantsStandIn 25 = false by kernel_rfl)
        · exact (show Tryd.prog.wantsStandIn 22 = false by kernel_rfl)
        · exact (show Tryd.prog.wantsStandIn 3 = false by kernel_rfl)⟩)
    (by kernel_rfl)

#print axioms after_card
end Go.Proofs.YtgcffmhpjphefaaDoor
