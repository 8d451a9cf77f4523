/- PROVED: the law 'TimersRight' (belfrylaw10), as a tied card: whatever the timer and the step, the call returns true, and the arguments read as they did: where the listed package variables hold what the program's text lays in them (the row's own condition). -/
import Derived.Test.YtgcffmhpjphefaaDoorP09
import Derived.Test.YtgcffmhpjphefaaDoorCards
import Derived.Test.YtgcffmhpjphefaaDoorTie
import Derived.LaidMore
import Derived.LaidSub
import Derived.Lib.LaidTab
import Derived.OpenShut
import Derived.Stop.Joined
import Derived.SevenTiedAt
set_option linter.unusedSimpArgs false
set_option linter.unusedVariables false
set_option linter.unusedSectionVars false
namespace Go.Proofs.YtgcffmhpjphefaaDoor
open Go Go.AE Go.ChangeShapes Go.WideShapes Go.ChangeAt Go.RowKit Go.Joins Go.Deep

set_option maxRecDepth 100000
section
variable {H : Type} {enc : TypeId × Value → H} {w : World} {base : Nat} {spare : Nat → Bool} {held : Bool}
theorem open_step {v : Value} {d : DataW H} {p : List MemPlace} {base' : Nat} (hv : Value.okWide Tryd.prog w .any base' 36 v) (h : DataW.Trod enc Tryd.prog w base spare held 36 v d p) : ∃ y : StepD, v = stepV y ∧ y.ok := by
  obtain ⟨cs, rfl, hsz, hrow⟩ : ∃ cs, v = .agg cs ∧ cs.size = Tryd.prog.cellsOf 36 ∧ Row.okWide Tryd.prog w .any base' 36 cs := by
    unfold Value.okWide at hv
    rw [Tryd.underlying36] at hv
    exact hv
  have h4 : Tryd.prog.cellsOf 36 = 4 := by kernel_rfl
  rw [h4] at hsz
  obtain ⟨l⟩ := cs
  obtain ⟨fuel, hf⟩ := h
  have hf : DataW.trod enc Tryd.prog w base spare held fuel 36 l = some (d, p) := hf
  match l, hsz with
  | [c0, c1, c2, c3], _ =>
    obtain ⟨y0, y1, y2, y3, k, _, _, g0, g1, g2, g3⟩ := trod_struct4 Tryd.underlying36 hf
    have k34 : Tryd.prog.cellsOf 34 = 1 := by kernel_rfl
    have k9 : Tryd.prog.cellsOf 9 = 1 := by kernel_rfl
    have k2 : Tryd.prog.cellsOf 2 = 1 := by kernel_rfl
    simp only [k34, k9, k2, List.drop_succ_cons, List.drop_zero, List.take_succ_cons, List.take_zero] at g0 g1 g2 g3
    obtain ⟨n0, e0, _, l0⟩ := DataW.trod_int Tryd.underlying34 g0
    obtain ⟨s1, e1, _⟩ := Go.DataW.trod_string Tryd.underlying9 g1
    obtain ⟨s2, e2, _⟩ := Go.DataW.trod_string Tryd.underlying9 g2
    obtain ⟨n3, e3, _, l3⟩ := DataW.trod_int Tryd.underlying2 g3
    cases e0; cases e1; cases e2; cases e3
    obtain ⟨a1, a2⟩ := wf_i64 l0
    obtain ⟨b1, b2⟩ := wf_i64 l3
    exact ⟨⟨n0, s1, s2, n3⟩, rfl, a1, a2, b1, b2⟩
end
theorem tab_global : Tryd.prog.globalNamed "internal/strconv.uint64pow10" = some 0 := by kernel_rfl
theorem tab_met {W : World} (h : laidMetH Tryd.prog Rows.timersRightRow.laid W) : Lib.TabIs Tryd.prog W "internal/strconv.uint64pow10" .u64 Lib.pow10Tab ∧ 0 < W.heap.size := by
  have h1 := h.filter (fun x => x.1 == "internal/strconv.uint64pow10")
  have e : Rows.timersRightRow.laid.filter (fun x => x.1 == "internal/strconv.uint64pow10") = [("internal/strconv.uint64pow10", Lib.tabData .u64 Lib.pow10Tab)] := by kernel_rfl
  rw [e] at h1
  have h2 := (laidMetH_iff.1 h1).1
  have e2 : ([("internal/strconv.uint64pow10", (Lib.tabData .u64 Lib.pow10Tab : DataW Unit))].filter fun x => x.2.handleName?.isNone) = [("internal/strconv.uint64pow10", Lib.tabData .u64 Lib.pow10Tab)] := by kernel_rfl
  rw [e2] at h2
  have ht : (Tryd.prog.globals[0]?).map (·.type) = some 131 := by kernel_rfl
  have hT := Lib.tabIs_of_head tab_global ht Tryd.underlying131 Tryd.underlying22 (by kernel_rfl) (by kernel_rfl) h2
  refine ⟨hT, ?_⟩
  have hc := Lib.TabIs.cell hT tab_global 0 (by decide +kernel)
  unfold World.cell? at hc
  by_cases hz : 0 < W.heap.size
  · exact hz
  · have e3 : W.heap[0]? = none := Array.getElem?_eq_none (by omega)
    simp only [e3] at hc
    cases hc
theorem right_calls {W : World} {t : TimD} {dv : Value} {y : StepD} (hT : Lib.TabIs Tryd.prog W "internal/strconv.uint64pow10" .u64 Lib.pow10Tab) (hz : 0 < W.heap.size) (h : StepsAt W dv t.steps) (hy : ∀ y ∈ t.steps, y.ok) (hyo : y.ok) (ha : t.at_ < 18446744073709551616) :
    Calls Tryd.prog 4 #[tval t dv, stepV y] W fun e w' => e = .returned (.bool true) ∧ Below W.heap.size W w' := by
  obtain ⟨x, sv, hx, hr, hv, hs⟩ := steps_span h []
  have hlie : Lie [x] W := by
    intro y hy
    rw [List.mem_singleton.1 hy]
    exact hx
  refine calls_ro_true (s := [x]) (args := [tval t sv, stepV y]) (.cons (VRel.agg_of (l := tcell t sv) (r := tcell t dv) (.cons (.string _) (.cons (.int _ _) (.cons (.int _ _) (.cons (.int _ _) (.cons (hv []) .nil)))))) (.cons (VRel.refl_closed rfl) .nil)) ?_
  exact right_walk (roadS hlie) (tab_road tab_global hz hT) (S := fun b => b = 0) (hs [] _ (fun b _ => rfl) (by show 0 < 1; omega)) (fun b hb => by show b < 1; omega) (fun y hy' => ⟨(hy y hy').2.2.1, (hy y hy').2.2.2⟩) ⟨hyo.2.2.1, hyo.2.2.2⟩ ha

theorem readable_right : ∀ t ∈ Tryd.f4.params.toList, Tryd.prog.readableRec t = true ∧ t < Tryd.prog.types.size := by
  intro t ht
  rw [Tryd.params4] at ht
  simp at ht
  rcases ht with rfl | rfl <;> exact ⟨by kernel_rfl, of_decide_eq_true (by kernel_rfl)⟩

abbrev laid3 := Rows.timersRightRow.laid
theorem door_met (os : Os) (args : Array Value) : laidMetH Tryd.prog laid3 ((World.doorLaid Tryd.prog 4000 os).forCall (fun _ _ => 0) ⟨#[], args, []⟩).memory :=
  laidMetH_of_parts (laidMet_of_run' 8 (by kernel_rfl) (by kernel_rfl)) (by kernel_rfl)

theorem right_lifted (os : Os) (started : os.Started) (H : Type) (enc : TypeId × Value → H) :
    ReturnsInHanded {} Tryd.checked os 4 .any (fun w args => (Rows.timersRightSpec.pre enc Tryd.prog Tryd.f4 [] false w args ∧ laidMetH Tryd.prog laid3 w) ∧ sizedMet enc Tryd.prog Tryd.f4 (OpenSpec.ofChange Rows.timersRightSpec) false w args)
      (Rows.timersRightSpec.post enc Tryd.prog Tryd.f4 false true false false) := by
  refine returnsInHanded_of_change_and (C := Tryd.checked) (X := fun w _ => laidMetH Tryd.prog laid3 w) (fun _ _ _ hh h => h.of_heap hh) Tryd.own started (by kernel_rfl) Tryd.func4
    (ChangeSpec.witness_shaped (enc := enc) (C := Tryd.checked) (os := os) (X := fun w _ => laidMetH Tryd.prog laid3 w) false (World.doorLaid Tryd.prog 4000 os) #[.agg #[.string ⟨#[]⟩, .int .i64 0, .int .u64 0, .int .u64 0, .slice none 0 0], .agg #[.int .i64 0, .string ⟨#[]⟩, .string ⟨#[]⟩, .int .i64 0]] 8 rfl (World.shaped_of_RefB (by kernel_rfl) (by kernel_rfl)) (by kernel_rfl) (by kernel_rfl) (by kernel_rfl) (door_met os _)) ?_
  intro W base args ds gs before hval0 hW hX1 hX2 hX3 hX4
  have hval : ∀ (j : Nat) t v, Tryd.f4.params[j]? = some t → args[j]? = some v → Value.okWide Tryd.prog W .any base t v := hval0
  have hW' := hW
  have hmet : laidMetH Tryd.prog laid3 W := by first | exact hX1 | exact hX2 | exact hX3 | exact hX4
  obtain ⟨hT, hz⟩ := tab_met hmet
  obtain ⟨p, q, hA0, hV, rfl, hfz, hnd⟩ := hW
  have hA : DataW.TrodAll enc Tryd.prog W 0 (fun _ => true) true Tryd.f4.params.toList args.toList ds p := hA0
  rw [Tryd.params4] at hA hval
  obtain ⟨v0, v1, d0, d1, p0, p1, rfl, rfl, rfl, t0, t1⟩ := trodAll_two hA
  obtain ⟨y, rfl, hyo⟩ := open_step (hval 1 36 v1 rfl rfl) t1
  obtain ⟨t, dv, rfl, hs, hys, ha, he, _⟩ := open_timer (hval 0 25 v0 rfl rfl) t0
  refine (right_calls hT hz hs hys hyo ha).mono ?_
  rintro e W' ⟨he', hbel⟩
  exact ⟨_, he', law_post Tryd.laidOut readable_right hW' rfl hbel rfl Tryd.underlying4 (fun h => by rw [h]; rfl)⟩

theorem right_holds : Rows.TimersRightSaid :=
  OpenClaim.holds_of_wide 4 Tryd.f4 rfl rfl rfl rfl rfl rfl rfl ⟨rfl, rfl, rfl, rfl, rfl⟩ rfl rfl rfl rfl rfl (by kernel_rfl) Tryd.func4 (by kernel_rfl)
    (of_decide_eq_true (by kernel_rfl)) (by unfold Func.isWrapper; first | (rw [if_pos (by decide +kernel)]; kernel_rfl) | (rw [if_neg (by decide +kernel)]; exact ⟨rfl, rfl⟩))
    (fun os started H enc _ => right_lifted os started H enc)

theorem right_card : Rows.TimersRightCardSaid :=
  Claim7.holds_tied_plain_at .later [] [.data, .data, .data] true (true, "4d74ff83a362e8f7fb419518048ca5cbabfd09e4df89121696b26680b9c8f556") true
    right_holds (fun _ h => by cases h) (by kernel_rfl) (fun _ h => by cases h) timersRight_row_tie rfl ⟨rfl, rfl⟩ (by kernel_rfl) rfl
    (fun f fn hf hfn => by
      obtain rfl : f = 4 := Option.some.inj ((show Tryd.prog.funcNamed "belfry/belfrylaw10.TimersRight" = some 4 by kernel_rfl).symm.trans hf) |>.symm
      obtain rfl : fn = Tryd.f4 := (Option.some.inj (Tryd.func4.symm.trans hfn)).symm
      exact ⟨by kernel_rfl, fun j t ht => by
        rw [Tryd.params4] at ht
        have h3 : t = 25 ∨ t = 36 := by
          rcases j with _ | _ | j
          · left; simpa using ht.symm
          · right; simpa using ht.symm
          · simp at ht
        rcases h3 with rfl | rfl
        · exact (show Tryd.prog.wantsStandIn 25 = false by kernel_rfl)
        · exact (show Tryd.prog.wantsStandIn 36 = false by kernel_rfl)⟩)
    (by kernel_rfl)

#print axioms right_card
end Go.Proofs.YtgcffmhpjphefaaDoor
