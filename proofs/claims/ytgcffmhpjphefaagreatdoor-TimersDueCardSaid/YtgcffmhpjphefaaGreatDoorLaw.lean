/- PROVED: the law 'TimersDue' (belfrylaw10), as a tied card: whatever the clock, the timers and the two numbers, the call returns true, and the arguments read as they did: where the listed package variables hold what the program's text lays in them (the row's own condition). -/
import Derived.Test.YtgcffmhpjphefaaGreatDoorP12
set_option linter.unusedSimpArgs false
set_option linter.unusedVariables false
set_option linter.unusedSectionVars false
namespace Go.Proofs.YtgcffmhpjphefaaGreatDoor
open Go Go.AE Go.ChangeShapes Go.WideShapes Go.ChangeAt Go.RowKit Go.Joins Go.Deep
set_option maxRecDepth 100000
theorem due_calls {W : World} {now a b : Nat} {v : Value} {P : List (TimD × Value)} (hT : Lib.TabIs Tryz.prog W "internal/strconv.uint64pow10" .u64 Lib.pow10Tab) (hz : 0 < W.heap.size) (h : TimersAt W v P) (hst : ∀ p ∈ P, StepsZ W p.2 p.1.steps ∧ p.1.wide) (hn : now < 18446744073709551616) (ha : a < 18446744073709551616) (hb : b < 18446744073709551616) :
    Calls Tryz.prog 3 #[.int .u64 (now : Int), v, .agg #[.int .u64 (a : Int), .int .u64 (b : Int)]] W fun e w' => e = .returned (.bool true) ∧ Below W.heap.size W w' := by
  obtain ⟨s1, lv, P', hs⟩ := timers_span h hst []
  obtain ⟨hl, hv, hH⟩ := hs []
  simp only [List.nil_append, List.append_nil] at hl hv hH
  have hlie : LieV s1 W := hl
  refine calls_ro_true (s := s1) (args := [.int .u64 (now : Int), lv, .agg #[.int .u64 (a : Int), .int .u64 (b : Int)]]) (.cons (.int _ _) (.cons hv (.cons (VRel.refl_closed rfl) .nil))) ?_
  exact due_walk (roadSV hlie) (tab_road tab_global hz hT) (hH _ (fun b _ => rfl) (Nat.le_refl _)) (fun b hb => hb) hn ha hb
theorem readable_due : ∀ t ∈ Tryz.f3.params.toList, Tryz.prog.readableRec t = true ∧ t < Tryz.prog.types.size := by
  intro t ht
  rw [Tryz.params3] at ht
  simp at ht
  rcases ht with rfl | rfl | rfl <;> exact ⟨by kernel_rfl, of_decide_eq_true (by kernel_rfl)⟩
abbrev laidDue := Rows.timersDueRow.laid
theorem door_due (os : Os) (args : Array Value) : laidMetH Tryz.prog laidDue ((World.doorLaid Tryz.prog 4000 os).forCall (fun _ _ => 0) ⟨#[], args, []⟩).memory :=
  laidMetH_of_parts (laidMet_of_run' 8 (by kernel_rfl) (by kernel_rfl)) (by kernel_rfl)
theorem due_lifted (os : Os) (started : os.Started) (H : Type) (enc : TypeId × Value → H) :
    ReturnsInHanded {} Tryz.checked os 3 .any (fun w args => (Rows.timersDueSpec.pre enc Tryz.prog Tryz.f3 [] false w args ∧ laidMetH Tryz.prog laidDue w) ∧ sizedMet enc Tryz.prog Tryz.f3 (OpenSpec.ofChange Rows.timersDueSpec) false w args)
      (Rows.timersDueSpec.post enc Tryz.prog Tryz.f3 false true false false) := by
  refine returnsInHanded_of_change_and (C := Tryz.checked) (X := fun w _ => laidMetH Tryz.prog laidDue w) (fun _ _ _ hh h => h.of_heap hh) Tryz.own started (by kernel_rfl) Tryz.func3
    (ChangeSpec.witness_shaped (enc := enc) (C := Tryz.checked) (os := os) (X := fun w _ => laidMetH Tryz.prog laidDue w) false (World.doorLaid Tryz.prog 4000 os) #[.int .u64 0, .slice none 0 0, .agg #[.int .u64 0, .int .u64 0]] 8 rfl (World.shaped_of_RefB (by kernel_rfl) (by kernel_rfl)) (by kernel_rfl) (by kernel_rfl) (by kernel_rfl) (door_due os _)) ?_
  intro W base args ds gs before hval0 hW hX1 hX2 hX3 hX4
  have hval : ∀ (j : Nat) t v, Tryz.f3.params[j]? = some t → args[j]? = some v → Value.okWide Tryz.prog W .any base t v := hval0
  have hW' := hW
  have hmet : laidMetH Tryz.prog laidDue W := by first | exact hX1 | exact hX2 | exact hX3 | exact hX4
  obtain ⟨hT, hz⟩ := tab_met (by kernel_rfl) hmet
  obtain ⟨p, q, hA0, hV, rfl, hfz, hnd⟩ := hW
  have hA : DataW.TrodAll enc Tryz.prog W 0 (fun _ => true) true Tryz.f3.params.toList args.toList ds p := hA0
  rw [Tryz.params3] at hA hval
  obtain ⟨v0, v1, v2, d0, d1, d2, p0, p1, p2, rfl, rfl, rfl, t0, t1, t2⟩ := trodAll_three hA
  obtain ⟨now, rfl, hn⟩ := u64_ok (hval 0 22 _ rfl rfl)
  obtain ⟨P, hP, hst⟩ := timers_at (hval 1 23 _ rfl rfl) t1
  obtain ⟨a, b, rfl, ha, hb⟩ := open_two (hval 2 24 _ rfl rfl) t2
  refine (due_calls hT hz hP hst hn ha hb).mono ?_
  rintro e W' ⟨he', hbel⟩
  exact ⟨_, he', law_post Tryz.laidOut readable_due hW' rfl hbel rfl Tryz.underlying4 (fun h => by rw [h]; rfl)⟩
theorem due_holds : Rows.TimersDueSaid :=
  OpenClaim.holds_of_wide 3 Tryz.f3 rfl rfl rfl rfl rfl rfl rfl ⟨rfl, rfl, rfl, rfl, rfl⟩ rfl rfl rfl rfl rfl (by kernel_rfl) Tryz.func3 (by kernel_rfl)
    (of_decide_eq_true (by kernel_rfl)) (by unfold Func.isWrapper; first | (rw [if_pos (by decide +kernel)]; kernel_rfl) | (rw [if_neg (by decide +kernel)]; exact ⟨rfl, rfl⟩))
    (fun os started H enc _ => due_lifted os started H enc)
theorem due_card : Rows.TimersDueCardSaid :=
  Claim7.holds_tied_plain_at .later [] [.data, .data, .data] true (true, "1ae6fc6c3bb4b4e646a778c1e37d6a6b5d9719ea2c6b3c26b35f6ac15c63dffb") true
    due_holds (fun _ h => by cases h) (by kernel_rfl) (fun _ h => by cases h) timersDue_row_tie rfl ⟨rfl, rfl⟩ (by kernel_rfl) rfl
    (fun f fn hf hfn => by
      obtain rfl : f = 3 := Option.some.inj ((show Tryz.prog.funcNamed "belfry/belfrylaw10.TimersDue" = some 3 by kernel_rfl).symm.trans hf) |>.symm
      obtain rfl : fn = Tryz.f3 := (Option.some.inj (Tryz.func3.symm.trans hfn)).symm
      exact ⟨by kernel_rfl, fun j t ht => by
        rw [Tryz.params3] at ht
        have h3 : t = 22 ∨ t = 23 ∨ t = 24 := by
          rcases j with _ | _ | _ | j
          · left; simpa using ht.symm
          · right; left; simpa using ht.symm
          · right; right; simpa using ht.symm
          · simp at ht
        rcases h3 with rfl | rfl | rfl
        · exact (show Tryz.prog.wantsStandIn 22 = false by kernel_rfl)
        · exact (show Tryz.prog.wantsStandIn 23 = false by kernel_rfl)
        · exact (show Tryz.prog.wantsStandIn 24 = false by kernel_rfl)⟩)
    (by kernel_rfl)

#print axioms due_card
end Go.Proofs.YtgcffmhpjphefaaGreatDoor
