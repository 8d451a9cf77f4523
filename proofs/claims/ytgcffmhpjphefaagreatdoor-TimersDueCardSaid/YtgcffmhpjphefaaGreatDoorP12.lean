/- Spans for a slice of timers with their steps. -/
import Derived.Test.YtgcffmhpjphefaaGreatDoorP11
import Derived.Test.YtgcffmhpjphefaaGreatDoorCards
import Derived.Test.YtgcffmhpjphefaaGreatDoorTie
import Derived.LaidMore
import Derived.LaidSub
import Derived.Lib.LaidTab
import Derived.OpenShut
import Derived.Stop.Joined
import Derived.SevenTiedAt
set_option linter.unusedSimpArgs false
set_option linter.unusedVariables false
set_option linter.unusedSectionVars false
namespace Go.Proofs.YtgcffmhpjphefaaGreatDoor
open Go Go.AE Go.ChangeShapes Go.WideShapes Go.ChangeAt Go.RowKit Go.Joins Go.Deep
set_option maxRecDepth 100000
instance : Inhabited Go.AE.Loc := ⟨⟨0, 0, 0, 0, undef⟩⟩
/-- The cells of rows lie in a world, as a renaming says. -/
def LieIn (s1 s : Spans) (W : World) : Prop := ∀ x ∈ s1, ∀ (i : Nat) (v : Value), x.2[i]? = some v → ∃ v', W.cell? ⟨x.1.B, x.1.o + i, none⟩ = some v' ∧ VRel (roRen s) v v'
theorem timers_span {W : World} {v : Value} {P : List (TimD × Value)} (h : TimersAt W v P) (hst : ∀ p ∈ P, StepsZ W p.2 p.1.steps ∧ p.1.wide) (s0 : Spans) : ∃ (s1 : Spans) (lv : Value) (P' : List (TimD × Value)), ∀ s' : Spans,
    LieIn s1 (s0 ++ (s1 ++ s')) W ∧ VRel (roRen (s0 ++ (s1 ++ s'))) lv v ∧ ∀ A : ASt, (∀ b, b < A.next → A.get b = none) → (s0 ++ (s1 ++ s')).length ≤ A.next → Handed (s0 ++ (s1 ++ s')) A (fun b => b < (s0 ++ (s1 ++ s')).length) lv P' := by
  rcases h with ⟨rfl, rfl⟩ | ⟨b, o, cap, rfl, hcap, hx⟩
  · exact ⟨[], .slice none 0 0, [], fun s' => ⟨fun x hx => (by cases hx), .nilSlice 0 0, fun A _ _ => ⟨.inl ⟨rfl, .inl rfl⟩, fun p hp => (by cases hp)⟩⟩⟩
  · have each : ∀ i, i < P.length → ∃ y : (Go.AE.Loc × List Value) × Value, (∀ (j : Nat) (c : Value), y.1.2[j]? = some c → closed c = true ∧ W.cell? ⟨y.1.1.B, y.1.1.o + j, none⟩ = some c) ∧
        ∀ p, P[i]? = some p → ∀ s : Spans, s[s0.length + i]? = some y.1 → VRel (roRen s) y.2 p.2 ∧ ∀ A : ASt, (∀ b, b < A.next → A.get b = none) → s0.length + i < A.next → Steps (withRo E0 s) A (fun b => b = s0.length + i) y.2 p.1.steps := fun i hi => by
      have hp : P[i]? = some P[i] := List.getElem?_eq_getElem hi
      obtain ⟨x, sv, h1, h2⟩ := stepsZ_span (hst _ (List.mem_of_getElem? hp)).1 (s0.length + i)
      refine ⟨(x, sv), h1, fun p hp2 s hs => ?_⟩
      rw [hp] at hp2
      cases hp2
      exact h2 s hs
    obtain ⟨f, hf⟩ := choose_ltS each
    let xs : Spans := (List.range P.length).map fun i => (f i).1
    let P' : List (TimD × Value) := P.mapIdx fun i p => (p.1, (f i).2)
    have hxs : ∀ i, i < P.length → xs[i]? = some (f i).1 := fun i hi => by
      show ((List.range P.length).map fun i => (f i).1)[i]? = _
      rw [List.getElem?_map, List.getElem?_range hi]
      rfl
    have hxl : xs.length = P.length := by simp [xs]
    have hP' : ∀ i p', P'[i]? = some p' → ∃ p, P[i]? = some p ∧ i < P.length ∧ p' = (p.1, (f i).2) := fun i p' hi => by
      have hi : (P.mapIdx fun i p => (p.1, (f i).2))[i]? = some p' := hi
      rw [List.getElem?_mapIdx] at hi
      obtain ⟨p, h1, h2⟩ := Option.map_eq_some_iff.1 hi
      exact ⟨p, h1, (List.getElem?_eq_some_iff.1 h1).1, h2.symm⟩
    have hPl : P'.length = P.length := List.length_mapIdx
    have hat : ∀ s' i, i < P.length → (s0 ++ ((xs ++ [((⟨b, o, 0, 0, undef⟩ : Go.AE.Loc), (P'.map fun p => tcell p.1 p.2).flatten)]) ++ s'))[s0.length + i]? = some (f i).1 := fun s' i hi => by
      rw [List.getElem?_append_right (by omega), Nat.add_sub_cancel_left, List.append_assoc, List.getElem?_append_left (by omega)]
      exact hxs i hi
    have hrow : ∀ s', (s0 ++ ((xs ++ [((⟨b, o, 0, 0, undef⟩ : Go.AE.Loc), (P'.map fun p => tcell p.1 p.2).flatten)]) ++ s'))[s0.length + P.length]? = some ((⟨b, o, 0, 0, undef⟩ : Go.AE.Loc), (P'.map fun p => tcell p.1 p.2).flatten) := fun s' => by
      rw [List.getElem?_append_right (by omega), Nat.add_sub_cancel_left, List.append_assoc, List.getElem?_append_right (by omega), hxl, Nat.sub_self]
      rfl
    refine ⟨xs ++ [((⟨b, o, 0, 0, undef⟩ : Go.AE.Loc), (P'.map fun p => tcell p.1 p.2).flatten)], .slice (some ⟨s0.length + P.length, 0, none⟩) P.length cap, P', fun s' => ⟨fun x hx1 i c hc => ?_, ?_, fun A hA hn => ⟨?_, fun p' hp' => ?_⟩⟩⟩
    · rcases List.mem_append.1 hx1 with h1 | h1
      · obtain ⟨j, hj, rfl⟩ := List.mem_map.1 h1
        obtain ⟨h2, h3⟩ := (hf j (List.mem_range.1 hj)).1 i c hc
        exact ⟨c, h3, .refl_closed h2⟩
      · simp only [List.mem_singleton] at h1
        subst h1
        obtain ⟨q, p', r, h2, h3, rfl, h4⟩ := tcells_at hc
        obtain ⟨p, h5, h6, rfl⟩ := hP' q p' h2
        have h7 := hx q p h5
        have h8 := ((hf q h6).2 p h5 _ (hat s' q h6)).1
        match r, h3, h4 with
        | 0, _, h4 => cases h4; exact ⟨_, h7 0 _ rfl, .refl_closed rfl⟩
        | 1, _, h4 => cases h4; exact ⟨_, h7 1 _ rfl, .refl_closed rfl⟩
        | 2, _, h4 => cases h4; exact ⟨_, h7 2 _ rfl, .refl_closed rfl⟩
        | 3, _, h4 => cases h4; exact ⟨_, h7 3 _ rfl, .refl_closed rfl⟩
        | 4, _, h4 => cases h4; exact ⟨_, h7 4 _ rfl, h8⟩
    · have hr : roRen (s0 ++ ((xs ++ [((⟨b, o, 0, 0, undef⟩ : Go.AE.Loc), (P'.map fun p => tcell p.1 p.2).flatten)]) ++ s')) (s0.length + P.length) = some ⟨b, o, 0, 0, undef⟩ := by unfold roRen; rw [hrow]; rfl
      exact .slice (b := s0.length + P.length) (off := 0) P.length hr hcap
    · have hlen := flat_len (tcell_len (P := P'))
      have hlt : s0.length + P.length < (s0 ++ ((xs ++ [((⟨b, o, 0, 0, undef⟩ : Go.AE.Loc), (P'.map fun p => tcell p.1 p.2).flatten)]) ++ s')).length := by simp only [List.length_append, List.length_cons, List.length_nil]; omega
      refine .inr ⟨s0.length + P.length, 0, cap, (P'.map fun p => tcell p.1 p.2).flatten, by rw [List.length_map, hPl], .inl ⟨hA _ (by omega), ?_⟩, hlt, by omega, tcell_len, ?_⟩
      · rw [ro_of]
        unfold roTab
        rw [hrow]; rfl
      · unfold cut
        simp only [List.drop_zero, ← hlen, List.take_length, Nat.beq_refl, cond_true]
    · obtain ⟨i, hi⟩ := List.mem_iff_getElem?.1 hp'
      obtain ⟨p, h5, h6, rfl⟩ := hP' i p' hi
      have h8 := ((hf i h6).2 p h5 _ (hat s' i h6)).2 A hA (by simp only [List.length_append, List.length_cons, List.length_nil] at hn; omega)
      have hw := (hst p (List.mem_of_getElem? h5)).2
      refine ⟨h8.imp (fun b hb _ => ?_), fun y hy => ⟨(hw.1 y hy).2.2.1, (hw.1 y hy).2.2.2⟩, hw.2.1⟩
      subst hb
      simp only [List.length_append, List.length_cons, List.length_nil]
      omega
end Go.Proofs.YtgcffmhpjphefaaGreatDoor

/- What a law's arguments hold: slices of timers, numbers, two numbers. -/
namespace Go.Proofs.YtgcffmhpjphefaaGreatDoor
open Go Go.AE Go.ChangeShapes Go.WideShapes Go.ChangeAt Go.RowKit Go.Joins Go.Deep
set_option maxRecDepth 100000
section
variable {H : Type} {enc : TypeId × Value → H} {w : World} {base : Nat} {spare : Nat → Bool} {held : Bool}
theorem slice_cells {W : World} {t e : TypeId} {v : Value} (ht : Tryz.prog.underlying t = some (.slice e)) {base : Nat} (hv : Value.okWide Tryz.prog W .any base t v) : v.cells = #[v] := by
  unfold Value.okWide Cell.okWide Cell.ok at hv
  rw [ht] at hv
  cases v <;> first | rfl | (simp at hv)
theorem spot_none {t e : TypeId} {a : Addr} {len cap : Nat} (ht : Tryz.prog.underlying t = some (.slice e)) (hv : Value.okWide Tryz.prog w .any base t (.slice (some a) len cap)) : a.spot = none := by
  unfold Value.okWide Cell.okWide Cell.ok at hv
  rw [ht] at hv
  exact hv.2.2.2.1
theorem u64_ok {v : Value} (hv : Value.okWide Tryz.prog w .any base 22 v) : ∃ n : Nat, v = .int .u64 (n : Int) ∧ n < 18446744073709551616 := by
  unfold Value.okWide Cell.okWide Cell.ok at hv
  rw [Tryz.underlying22] at hv
  cases v <;> first | (simp at hv; done) | skip
  rename_i k n
  simp only at hv
  obtain ⟨rfl, h⟩ := hv
  unfold IntKind.has at h
  have h1 : (0 : Int) ≤ n := h.1
  have h2 : n ≤ 18446744073709551615 := h.2
  exact ⟨n.toNat, by rw [Int.toNat_of_nonneg h1], by omega⟩
theorem open_two {v : Value} {d : DataW H} {p : List MemPlace} {base' : Nat} (hv : Value.okWide Tryz.prog w .any base' 24 v) (h : DataW.Trod enc Tryz.prog w base spare held 24 v d p) : ∃ b0 b1 : Nat, v = .agg #[.int .u64 (b0 : Int), .int .u64 (b1 : Int)] ∧ b0 < 18446744073709551616 ∧ b1 < 18446744073709551616 := by
  obtain ⟨cs, rfl, hsz, _⟩ : ∃ cs, v = .agg cs ∧ cs.size = Tryz.prog.cellsOf 24 ∧ Row.okWide Tryz.prog w .any base' 24 cs := by
    unfold Value.okWide at hv
    rw [Tryz.underlying24] at hv
    exact hv
  have h2 : Tryz.prog.cellsOf 24 = 2 := by kernel_rfl
  rw [h2] at hsz
  obtain ⟨l⟩ := cs
  match l, hsz with
  | [c0, c1], _ =>
    obtain ⟨fuel, hf⟩ := h
    have hf : DataW.trod enc Tryz.prog w base spare held fuel 24 [c0, c1] = some (d, p) := hf
    obtain ⟨xs, m, _, _, _, hxl, hg⟩ := Go.DataW.trod_array Tryz.underlying24 hf
    have c22 : Tryz.prog.cellsOf 22 = 1 := by kernel_rfl
    match xs, hxl with
    | [y0, y1], _ =>
      have g0 := hg 0 (by omega)
      have g1 := hg 1 (by omega)
      simp only [c22, Nat.zero_mul, Nat.mul_one, List.drop_succ_cons, List.drop_zero, List.take_succ_cons, List.take_zero] at g0 g1
      obtain ⟨n0, e0, l0⟩ := trod_u64 g0
      obtain ⟨n1, e1, l1⟩ := trod_u64 g1
      cases e0; cases e1
      exact ⟨n0, n1, rfl, l0, l1⟩
theorem timers_at {W : World} {v : Value} {d : DataW H} {p : List MemPlace} {base : Nat} (hv : Value.okWide Tryz.prog W .any base 23 v) (h : DataW.Trod enc Tryz.prog W 0 spare held 23 v d p) :
    ∃ P, TimersAt W v P ∧ ∀ p ∈ P, StepsZ W p.2 p.1.steps ∧ p.1.wide := by
  obtain ⟨fuel, hf⟩ := h
  have hf : DataW.trod enc Tryz.prog W 0 spare held fuel 23 v.cells.toList = some (d, p) := hf
  rw [slice_cells Tryz.underlying23 hv] at hf
  exact open_timers hf (fun a len cap e => by subst e; exact spot_none Tryz.underlying23 hv)
end
theorem tab_global : Tryz.prog.globalNamed "internal/strconv.uint64pow10" = some 0 := by kernel_rfl
theorem tab_met {W : World} {laid : List (String × DataW Unit)} (e : laid.filter (fun x => x.1 == "internal/strconv.uint64pow10") = [("internal/strconv.uint64pow10", Lib.tabData .u64 Lib.pow10Tab)]) (h : laidMetH Tryz.prog laid W) : Lib.TabIs Tryz.prog W "internal/strconv.uint64pow10" .u64 Lib.pow10Tab ∧ 0 < W.heap.size := by
  have h1 := h.filter (fun x => x.1 == "internal/strconv.uint64pow10")
  rw [e] at h1
  have h2 := (laidMetH_iff.1 h1).1
  have e2 : ([("internal/strconv.uint64pow10", (Lib.tabData .u64 Lib.pow10Tab : DataW Unit))].filter fun x => x.2.handleName?.isNone) = [("internal/strconv.uint64pow10", Lib.tabData .u64 Lib.pow10Tab)] := by kernel_rfl
  rw [e2] at h2
  have ht : (Tryz.prog.globals[0]?).map (·.type) = some 186 := by kernel_rfl
  have hT := Lib.tabIs_of_head tab_global ht Tryz.underlying186 Tryz.underlying22 (by kernel_rfl) (by kernel_rfl) h2
  refine ⟨hT, ?_⟩
  have hc := Lib.TabIs.cell hT tab_global 0 (by decide +kernel)
  unfold World.cell? at hc
  by_cases hz : 0 < W.heap.size
  · exact hz
  · have e3 : W.heap[0]? = none := Array.getElem?_eq_none (by omega)
    simp only [e3] at hc
    cases hc
end Go.Proofs.YtgcffmhpjphefaaGreatDoor
