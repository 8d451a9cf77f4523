/- PROVED: the law 'TimersCopies' (belfrylaw10), as a tied card: whatever the clock and the timers, the call returns true, and the arguments read as they did: where the listed package variables hold what the program's text lays in them (the row's own condition). -/
import Derived.Test.YtgcffmhpjphefaaGreatDoorP12
set_option linter.unusedSimpArgs false
set_option linter.unusedVariables false
set_option linter.unusedSectionVars false
namespace Go.Proofs.YtgcffmhpjphefaaGreatDoor
open Go Go.AE Go.ChangeShapes Go.WideShapes Go.ChangeAt Go.RowKit Go.Joins Go.Deep
set_option maxRecDepth 100000
theorem copies_calls {W : World} {now : Nat} {v u : Value} {P Q : List (TimD × Value)} (hT : Lib.TabIs Tryz.prog W "internal/strconv.uint64pow10" .u64 Lib.pow10Tab) (hz : 0 < W.heap.size) (h : TimersAt W v P) (hst : ∀ p ∈ P, StepsZ W p.2 p.1.steps ∧ p.1.wide) (h' : TimersAt W u Q) (hst' : ∀ p ∈ Q, StepsZ W p.2 p.1.steps ∧ p.1.wide) (hn : now < 18446744073709551616) :
    Calls Tryz.prog 4 #[.int .u64 (now : Int), v, u] W fun e w' => e = .returned (.bool true) ∧ Below W.heap.size W w' := by
  obtain ⟨s1, lv, P', hs⟩ := timers_span h hst []
  obtain ⟨s2, lw, Q', hs'⟩ := timers_span h' hst' s1
  obtain ⟨hl, hv, hH⟩ := hs s2
  obtain ⟨hl2, hv2, hH2⟩ := hs' []
  simp only [List.nil_append, List.append_nil] at hl hv hH hl2 hv2 hH2
  have hlie : LieV (s1 ++ s2) W := fun x hx => by
    rcases List.mem_append.1 hx with h1 | h1
    · exact hl x h1
    · exact hl2 x h1
  refine calls_ro_true (s := s1 ++ s2) (args := [.int .u64 (now : Int), lv, lw]) (.cons (.int _ _) (.cons hv (.cons hv2 .nil))) ?_
  exact copies_walk (roadSV hlie) (tab_road tab_global hz hT) (hH _ (fun b _ => rfl) (Nat.le_refl _)) (hH2 _ (fun b _ => rfl) (Nat.le_refl _)) (fun b hb => hb) hn
theorem readable_copies : ∀ t ∈ Tryz.f4.params.toList, Tryz.prog.readableRec t = true ∧ t < Tryz.prog.types.size := by
  intro t ht
  rw [Tryz.params4] at ht
  simp at ht
  rcases ht with rfl | rfl | rfl <;> exact ⟨by kernel_rfl, of_decide_eq_true (by kernel_rfl)⟩
abbrev laidCopies := Rows.timersCopiesRow.laid
theorem door_copies (os : Os) (args : Array Value) : laidMetH Tryz.prog laidCopies ((World.doorLaid Tryz.prog 4000 os).forCall (fun _ _ => 0) ⟨#[], args, []⟩).memory :=
  laidMetH_of_parts (laidMet_of_run' 8 (by kernel_rfl) (by kernel_rfl)) (by kernel_rfl)
theorem copies_lifted (os : Os) (started : os.Started) (H : Type) (enc : TypeId × Value → H) :
    ReturnsInHanded {} Tryz.checked os 4 .any (fun w args => (Rows.timersCopiesSpec.pre enc Tryz.prog Tryz.f4 [] false w args ∧ laidMetH Tryz.prog laidCopies w) ∧ sizedMet enc Tryz.prog Tryz.f4 (OpenSpec.ofChange Rows.timersCopiesSpec) false w args)
      (Rows.timersCopiesSpec.post enc Tryz.prog Tryz.f4 false true false false) := by
  refine returnsInHanded_of_change_and (C := Tryz.checked) (X := fun w _ => laidMetH Tryz.prog laidCopies w) (fun _ _ _ hh h => h.of_heap hh) Tryz.own started (by kernel_rfl) Tryz.func4
    (ChangeSpec.witness_shaped (enc := enc) (C := Tryz.checked) (os := os) (X := fun w _ => laidMetH Tryz.prog laidCopies w) false (World.doorLaid Tryz.prog 4000 os) #[.int .u64 0, .slice none 0 0, .slice none 0 0] 8 rfl (World.shaped_of_RefB (by kernel_rfl) (by kernel_rfl)) (by kernel_rfl) (by kernel_rfl) (by kernel_rfl) (door_copies os _)) ?_
  intro W base args ds gs before hval0 hW hX1 hX2 hX3 hX4
  have hval : ∀ (j : Nat) t v, Tryz.f4.params[j]? = some t → args[j]? = some v → Value.okWide Tryz.prog W .any base t v := hval0
  have hW' := hW
  have hmet : laidMetH Tryz.prog laidCopies W := by first | exact hX1 | exact hX2 | exact hX3 | exact hX4
  obtain ⟨hT, hz⟩ := tab_met (by kernel_rfl) hmet
  obtain ⟨p, q, hA0, hV, rfl, hfz, hnd⟩ := hW
  have hA : DataW.TrodAll enc Tryz.prog W 0 (fun _ => true) true Tryz.f4.params.toList args.toList ds p := hA0
  rw [Tryz.params4] at hA hval
  obtain ⟨v0, v1, v2, d0, d1, d2, p0, p1, p2, rfl, rfl, rfl, t0, t1, t2⟩ := trodAll_three hA
  obtain ⟨now, rfl, hn⟩ := u64_ok (hval 0 22 _ rfl rfl)
  obtain ⟨P, hP, hst⟩ := timers_at (hval 1 23 _ rfl rfl) t1
  obtain ⟨Q, hQ, hst'⟩ := timers_at (hval 2 23 _ rfl rfl) t2
  refine (copies_calls hT hz hP hst hQ hst' hn).mono ?_
  rintro e W' ⟨he', hbel⟩
  exact ⟨_, he', law_post Tryz.laidOut readable_copies hW' rfl hbel rfl Tryz.underlying4 (fun h => by rw [h]; rfl)⟩
theorem copies_holds : Rows.TimersCopiesSaid :=
  OpenClaim.holds_of_wide 4 Tryz.f4 rfl rfl rfl rfl rfl rfl rfl ⟨rfl, rfl, rfl, rfl, rfl⟩ rfl rfl rfl rfl rfl (by kernel_rfl) Tryz.func4 (by kernel_rfl)
    (of_decide_eq_true (by kernel_rfl)) (by unfold Func.isWrapper; first | (rw [if_pos (by decide +kernel)]; kernel_rfl) | (rw [if_neg (by decide +kernel)]; exact ⟨rfl, rfl⟩))
    (fun os started H enc _ => copies_lifted os started H enc)
theorem copies_card : Rows.TimersCopiesCardSaid :=
  Claim7.holds_tied_plain_at .later [] [.data, .data, .data] true (true, "1ae6fc6c3bb4b4e646a778c1e37d6a6b5d9719ea2c6b3c26b35f6ac15c63dffb") true
    copies_holds (fun _ h => by cases h) (by kernel_rfl) (fun _ h => by cases h) timersCopies_row_tie rfl ⟨rfl, rfl⟩ (by kernel_rfl) rfl
    (fun f fn hf hfn => by
      obtain rfl : f = 4 := Option.some.inj ((show Tryz.prog.funcNamed "belfry/belfrylaw10.TimersCopies" = some 4 by kernel_rfl).symm.trans hf) |>.symm
      obtain rfl : fn = Tryz.f4 := (Option.some.inj (Tryz.func4.symm.trans hfn)).symm
      exact ⟨by kernel_rfl, fun j t ht => by
        rw [Tryz.params4] at ht
        have h3 : t = 22 ∨ t = 23 := by
          rcases j with _ | _ | _ | j
          · left; simpa using ht.symm
          · right; simpa using ht.symm
          · right; simpa using ht.symm
          · simp at ht
        rcases h3 with rfl | rfl
        · exact (show Tryz.prog.wantsStandIn 22 = false by kernel_rfl)
        · exact (show Tryz.prog.wantsStandIn 23 = false by kernel_rfl)⟩)

    (by kernel_rfl)

#print axioms copies_card
end Go.Proofs.YtgcffmhpjphefaaGreatDoor
