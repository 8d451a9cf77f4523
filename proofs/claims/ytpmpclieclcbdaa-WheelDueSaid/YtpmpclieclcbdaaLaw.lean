/- PROVED: the law 'WheelDue' (belfrylaw07): whatever the clock, the waits and the leaps, the call returns true, and the arguments read as they did: no condition beyond the row's own. -/
import Derived.Test.YtpmpclieclcbdaaP10
set_option linter.unusedSimpArgs false
set_option linter.unusedVariables false
set_option linter.unusedSectionVars false
namespace Go.Proofs.Ytpmpclieclcbdaa
open Go Go.AE Go.ChangeShapes Go.WideShapes Go.ChangeAt Go.RowKit Go.Joins Go.Deep

set_option maxRecDepth 100000
theorem cap_unk {cap : Nat} (h : cap ≤ maxLen) : cap ≠ unk := by
  intro e
  subst e
  unfold unk maxLen at h
  exact absurd h (by decide)
theorem slice_cells {W : World} {t e : TypeId} {v : Value} (ht : Try.prog.underlying t = some (.slice e)) {base : Nat} (hv : Value.okWide Try.prog W .any base t v) : v.cells = #[v] := by
  unfold Value.okWide Cell.okWide Cell.ok at hv
  rw [ht] at hv
  cases v <;> first | rfl | (simp at hv)
theorem u64_ok {W : World} {base : Nat} {v : Value} (hv : Value.okWide Try.prog W .any base 22 v) : ∃ n : Nat, v = .int .u64 (n : Int) ∧ n < 18446744073709551616 := by
  unfold Value.okWide Cell.okWide Cell.ok at hv
  rw [Try.underlying22] at hv
  cases v <;> first | (simp at hv; done) | skip
  rename_i k n
  have h1 : k = .u64 := hv.1
  subst h1
  have h2 : (0 : Int) ≤ n := hv.2.1
  have h3 : n ≤ 18446744073709551615 := hv.2.2
  exact ⟨n.toNat, by rw [Int.toNat_of_nonneg h2], by omega⟩

/-- What a slice of numbers is to the walk. -/
def NumsAt (W : World) (v : Value) (l : List Nat) : Prop :=
  (l = [] ∧ v = .slice none 0 0) ∨ ∃ b o cap, v = .slice (some ⟨b, o, none⟩) l.length cap ∧ cap ≠ unk ∧ ∀ (i y : Nat), l[i]? = some y → W.cell? ⟨b, o + i, none⟩ = some (.int .u64 (y : Int))
theorem nums_at {H : Type} {enc : TypeId × Value → H} {W : World} {spare : Nat → Bool} {held : Bool} {v : Value} {d : DataW H} {p : List MemPlace} {base : Nat} (hv : Value.okWide Try.prog W .any base 23 v) (h : DataW.Trod enc Try.prog W 0 spare held 23 v d p) :
    ∃ l, NumsAt W v l ∧ ∀ y ∈ l, y < 18446744073709551616 := by
  obtain ⟨fuel, hf⟩ := h
  have hf : DataW.trod enc Try.prog W 0 spare held fuel 23 v.cells.toList = some (d, p) := hf
  rw [slice_cells Try.underlying23 hv] at hf
  rcases open_u64s hf with h0 | ⟨a, len, cap, l, h0, hcap, hl, hr, hx⟩
  · cases h0
    exact ⟨[], .inl ⟨rfl, rfl⟩, by simp⟩
  · cases h0
    have hs := spot_none Try.underlying23 hv
    obtain ⟨b, o, sp⟩ := a
    simp only at hs
    subst hs
    refine ⟨l, .inr ⟨b, o, cap, by rw [hl], cap_unk hcap, fun i y hy => ?_⟩, hr⟩
    have := hx i y hy
    rwa [add_plain] at this

/-- The walk's own picture of the slice in the k-th span. -/
theorem nums_span {W : World} {v : Value} {l : List Nat} (h : NumsAt W v l) : ∃ x : Go.AE.Loc × List Value, (∀ (i : Nat) (u : Value), x.2[i]? = some u → closed u = true ∧ W.cell? ⟨x.1.B, x.1.o + i, none⟩ = some u) ∧ x.2 = ucells l ∧
    ∀ (s : Spans) (k : Nat), s[k]? = some x → ∃ sv, VRel (roRen s) sv v ∧ (∀ A, aLen E0 23 sv A = some (.int .i64 (l.length : Int))) ∧ (∀ i : Nat, i < l.length → aIndexAddr E0 23 sv (.int .i64 (i : Int)) = some (.pointer (some ⟨k, i, none⟩))) := by
  rcases h with ⟨rfl, rfl⟩ | ⟨b, o, cap, rfl, hcap, hx⟩
  · exact ⟨(⟨0, 0, 0, 0, undef⟩, []), fun i u hu => by simp at hu, rfl, fun s k _ => ⟨.slice none 0 0, .nilSlice 0 0, fun _ => len23, fun i hi => absurd hi (by simp)⟩⟩
  · refine ⟨(⟨b, o, 0, 0, undef⟩, ucells l), fun i u hu => ?_, rfl, fun s k hk => ⟨.slice (some ⟨k, 0, none⟩) l.length cap, ?_, fun _ => len23, fun i hi => ?_⟩⟩
    · have hu : (ucells l)[i]? = some u := hu
      unfold ucells at hu
      rw [List.getElem?_map] at hu
      obtain ⟨y, hy, rfl⟩ := Option.map_eq_some_iff.1 hu
      exact ⟨rfl, hx i y hy⟩
    · refine VRel.slice (ρ := roRen s) (b := k) (off := 0) (L := ⟨b, o, 0, 0, undef⟩) l.length ?_ hcap
      show (s[k]?).map (·.1) = _
      rw [hk]; rfl
    · have := ix23 (b := k) (cap := cap) (off := 0) (kd := .i64) hi
      rwa [Nat.zero_add] at this

theorem due_calls {W : World} {now : Nat} {v v' : Value} {l leaps : List Nat} (h : NumsAt W v l) (h' : NumsAt W v' leaps) (hr : ∀ y ∈ l, y < 18446744073709551616) (hr' : ∀ y ∈ leaps, y < 18446744073709551616) (hn : now < 18446744073709551616) :
    Calls Try.prog 3 #[.int .u64 (now : Int), v, v'] W fun e w' => e = .returned (.bool true) ∧ Below W.heap.size W w' := by
  obtain ⟨x, hx, ex, hs⟩ := nums_span h
  obtain ⟨y, hy, ey, hs'⟩ := nums_span h'
  have hlie : Lie [x, y] W := by
    intro z hz i u hu
    simp only [List.mem_cons, List.not_mem_nil, or_false] at hz
    rcases hz with rfl | rfl
    · exact hx i u hu
    · exact hy i u hu
  obtain ⟨sv, hv, hlen, hix⟩ := hs [x, y] 0 rfl
  obtain ⟨sv', hv', hlen', hix'⟩ := hs' [x, y] 1 rfl
  refine calls_ro_true (s := [x, y]) (args := [.int .u64 (now : Int), sv, sv']) (.cons (.int _ _) (.cons hv (.cons hv' .nil))) ?_
  exact due_walk (ro_road hlie) (by show some x.2 = _; rw [ex]) (by show some y.2 = _; rw [ey]) rfl hlen hix hlen' hix' hn hr hr'

theorem readable3 : ∀ t ∈ Try.f3.params.toList, Try.prog.readableRec t = true ∧ t < Try.prog.types.size := by
  intro t ht
  rw [Try.params3] at ht
  simp at ht
  rcases ht with rfl | rfl | rfl <;> exact ⟨by kernel_rfl, of_decide_eq_true (by kernel_rfl)⟩

theorem due_lifted (os : Os) (started : os.Started) (H : Type) (enc : TypeId × Value → H) :
    ReturnsInHanded {} Try.checked os 3 .any (Rows.wheelDueSpec.pre6 enc Try.prog Try.f3 Rows.wheelDueRow.domain false) (Rows.wheelDueSpec.post enc Try.prog Try.f3 false true false false) := by
  refine returnsInHanded_of_change (C := Try.checked) Try.own started (by kernel_rfl) Try.func3
    (ChangeSpec.witness6 (enc := enc) (C := Try.checked) false ⟨#[], #[.int .u64 0, .slice none 0 0, .slice none 0 0], []⟩ 8 (by kernel_rfl) (by kernel_rfl) (by kernel_rfl) (by kernel_rfl)) ?_
  intro W base args ds gs before hval0 hW hcnd _
  have hval : ∀ (j : Nat) t v, Try.f3.params[j]? = some t → args[j]? = some v → Value.okWide Try.prog W .any base t v := hval0
  have hW' := hW
  obtain ⟨p, q, hA0, hV, rfl, hfz, hnd⟩ := hW
  have hA : DataW.TrodAll enc Try.prog W 0 (fun _ => true) true Try.f3.params.toList args.toList ds p := hA0
  rw [Try.params3] at hA hval
  obtain ⟨v0, v1, v2, d0, d1, d2, p0, p1, p2, rfl, rfl, rfl, t0, t1, t2⟩ := trodAll_three hA
  have k0 := hval 0 22 _ rfl rfl
  have k1 := hval 1 23 _ rfl rfl
  have k2 := hval 2 23 _ rfl rfl
  obtain ⟨now, rfl, hn⟩ := u64_ok k0
  obtain ⟨l, hs, hr⟩ := nums_at k1 t1
  obtain ⟨leaps, hs', hr'⟩ := nums_at k2 t2
  refine (due_calls hs hs' hr hr' hn).mono ?_
  rintro e W' ⟨he, hbel⟩
  exact ⟨_, he, law_post Try.laidOut readable3 hW' rfl hbel rfl Try.underlying4 (fun h => by rw [h]; rfl)⟩

theorem due_holds : Rows.WheelDueSaid :=
  OpenClaim.holds_of_wide 3 Try.f3 rfl rfl rfl rfl rfl rfl rfl ⟨rfl, rfl, rfl, rfl, rfl⟩ rfl rfl rfl rfl rfl (by kernel_rfl) Try.func3 (by kernel_rfl)
    (of_decide_eq_true (by kernel_rfl)) (by unfold Func.isWrapper; first | (rw [if_pos (by decide +kernel)]; kernel_rfl) | (rw [if_neg (by decide +kernel)]; exact ⟨rfl, rfl⟩))
    (fun os started H enc _ => due_lifted os started H enc)

#print axioms due_holds
end Go.Proofs.Ytpmpclieclcbdaa
