/- PROVED: the law 'WheelPlays' (belfrylaw07): whatever the clock, and whatever the script, the call returns true, and the arguments read as they did: no condition beyond the row's own. -/
import Derived.Test.YtpmpclieclcbdaaP10
set_option linter.unusedSimpArgs false
set_option linter.unusedVariables false
set_option linter.unusedSectionVars false
namespace Go.Proofs.Ytpmpclieclcbdaa
open Go Go.AE Go.ChangeShapes Go.WideShapes Go.ChangeAt Go.RowKit Go.Joins Go.Deep

set_option maxRecDepth 100000
theorem len37 {A : ASt} {b : Option Addr} {n c : Nat} : aLen E0 37 (.slice b n c) A = some (.int .i64 (n : Int)) := by
  exact len_sl ti37 t37_desc
theorem ix37 {b len cap k off : Nat} (hk : k < len) : aIndexAddr E0 37 (.slice (some ⟨b, off, none⟩) len cap) (.int .i64 (k : Int)) = some (.pointer (some ⟨b, off + k * 4, none⟩)) := by
  have := indexAddr_sl (A := { heap := .e, next := 0 }) ti37 t37_desc ti40 (kd := .i64) (k := k) (b := b) (off := off) (len := len) (cap := cap) hk
  rwa [t40_size] at this
theorem cap_unk {cap : Nat} (h : cap ≤ maxLen) : cap ≠ unk := by
  intro e
  subst e
  unfold unk maxLen at h
  exact absurd h (by decide)

theorem slice_cells {W : World} {t e : TypeId} {v : Value} (ht : Try.prog.underlying t = some (.slice e)) {base : Nat} (hv : Value.okWide Try.prog W .any base t v) : v.cells = #[v] := by
  unfold Value.okWide Cell.okWide Cell.ok at hv
  rw [ht] at hv
  cases v <;> first | rfl | (simp at hv)

theorem u64_ok {W : World} {base : Nat} {v : Value} (hv : Value.okWide Try.prog W .any base 22 v) : ∃ n : Nat, v = .int .u64 (n : Int) ∧ n < 18446744073709551616 := by
  unfold Value.okWide Cell.okWide Cell.ok at hv
  rw [Try.underlying22] at hv
  cases v <;> first | (simp at hv; done) | skip
  rename_i k n
  have h1 : k = .u64 := hv.1
  subst h1
  have h2 : (0 : Int) ≤ n := hv.2.1
  have h3 : n ≤ 18446744073709551615 := hv.2.2
  exact ⟨n.toNat, by rw [Int.toNat_of_nonneg h2], by omega⟩

/-- What a script's slice is to the walk. -/
def ScriptAt (W : World) (v : Value) (acts : List ActD) : Prop :=
  (acts = [] ∧ v = .slice none 0 0) ∨ ∃ b o cap, v = .slice (some ⟨b, o, none⟩) acts.length cap ∧ cap ≠ unk ∧ ∀ i y, acts[i]? = some y → ∀ r c, (acell y)[r]? = some c → W.cell? ⟨b, o + (i * 4 + r), none⟩ = some c

theorem script_at {H : Type} {enc : TypeId × Value → H} {W : World} {spare : Nat → Bool} {held : Bool} {v : Value} {d : DataW H} {p : List MemPlace} {base : Nat} (hv : Value.okWide Try.prog W .any base 37 v) (h : DataW.Trod enc Try.prog W 0 spare held 37 v d p) (hc : v.cells = #[v]) :
    ∃ acts, ScriptAt W v acts ∧ ∀ y ∈ acts, y.at_ < 18446744073709551616 ∧ y.by_ < 18446744073709551616 := by
  obtain ⟨fuel, hf⟩ := h
  have hf : DataW.trod enc Try.prog W 0 spare held fuel 37 v.cells.toList = some (d, p) := hf
  rw [hc] at hf
  rcases open_acts hf with h0 | ⟨a, len, cap, acts, h0, hcap, hl, hr, hx⟩
  · cases h0
    exact ⟨[], .inl ⟨rfl, rfl⟩, by simp⟩
  · cases h0
    have hs := spot_none Try.underlying37 hv
    obtain ⟨b, o, sp⟩ := a
    simp only at hs
    subst hs
    refine ⟨acts, .inr ⟨b, o, cap, by rw [hl], cap_unk hcap, fun i y hy r c hr => ?_⟩, hr⟩
    have := hx i y hy r c hr
    rwa [add_plain] at this

theorem acell_closed {y : ActD} {r : Nat} {v : Value} (h : (acell y)[r]? = some v) : closed v = true := by
  match r, h with
  | 0, h => cases h; rfl
  | 1, h => cases h; rfl
  | 2, h => cases h; rfl
  | 3, h => cases h; rfl

/-- The walk's own picture of a script. -/
theorem script_span {W : World} {v : Value} {acts : List ActD} (h : ScriptAt W v acts) : ∃ (s : Spans) (sv : Value), s.length = 1 ∧ Lie s W ∧ roTab s 0 = some (acells acts) ∧ VRel (roRen s) sv v ∧
    (∀ A, aLen E0 37 sv A = some (.int .i64 (acts.length : Int))) ∧ (∀ i, i < acts.length → aIndexAddr E0 37 sv (.int .i64 (i : Int)) = some (.pointer (some ⟨0, i * 4, none⟩))) := by
  rcases h with ⟨rfl, rfl⟩ | ⟨b, o, cap, rfl, hcap, hx⟩
  · refine ⟨[(⟨0, 0, 0, 0, undef⟩, [])], .slice none 0 0, rfl, ?_, rfl, .nilSlice 0 0, fun _ => len37, fun i hi => absurd hi (by simp)⟩
    intro x hx i v hv
    simp only [List.mem_singleton] at hx
    subst hx
    simp at hv
  · refine ⟨[(⟨b, o, 0, 0, undef⟩, acells acts)], .slice (some ⟨0, 0, none⟩) acts.length cap, rfl, ?_, rfl, .slice (ρ := roRen [(⟨b, o, 0, 0, undef⟩, acells acts)]) (b := 0) (off := 0) acts.length rfl hcap, fun _ => len37, fun i hi => ?_⟩
    · intro x hx' i v hv
      simp only [List.mem_singleton] at hx'
      subst hx'
      obtain ⟨q, y, r, h1, _, rfl, h4⟩ := acells_at hv
      exact ⟨acell_closed h4, hx q y h1 r v h4⟩
    · have := ix37 (b := 0) (cap := cap) (off := 0) hi
      rwa [Nat.zero_add] at this

theorem plays_calls {W : World} {now : Nat} {v : Value} {acts : List ActD} (h : ScriptAt W v acts) (hr : ∀ y ∈ acts, y.at_ < 18446744073709551616 ∧ y.by_ < 18446744073709551616) (hn : now < 18446744073709551616) :
    Calls Try.prog 5 #[.int .u64 (now : Int), v] W fun e w' => e = .returned (.bool true) ∧ Below W.heap.size W w' := by
  obtain ⟨s, sv, hl, hlie, ht, hv, hlen, hix⟩ := script_span h
  refine calls_ro_true (args := [.int .u64 (now : Int), sv]) (.cons (.int _ _) (.cons hv .nil)) ?_
  exact plays_walk (ro_road hlie) ht hl hlen hix hn hr

theorem readable5 : ∀ t ∈ Try.f5.params.toList, Try.prog.readableRec t = true ∧ t < Try.prog.types.size := by
  intro t ht
  rw [Try.params5] at ht
  simp at ht
  rcases ht with rfl | rfl <;> exact ⟨by kernel_rfl, of_decide_eq_true (by kernel_rfl)⟩

theorem plays_lifted (os : Os) (started : os.Started) (H : Type) (enc : TypeId × Value → H) :
    ReturnsInHanded {} Try.checked os 5 .any (Rows.wheelPlaysSpec.pre6 enc Try.prog Try.f5 Rows.wheelPlaysRow.domain false) (Rows.wheelPlaysSpec.post enc Try.prog Try.f5 false true false false) := by
  refine returnsInHanded_of_change (C := Try.checked) Try.own started (by kernel_rfl) Try.func5
    (ChangeSpec.witness6 (enc := enc) (C := Try.checked) false ⟨#[], #[.int .u64 0, .slice none 0 0], []⟩ 8 (by kernel_rfl) (by kernel_rfl) (by kernel_rfl) (by kernel_rfl)) ?_
  intro W base args ds gs before hval0 hW hcnd _
  have hval : ∀ (j : Nat) t v, Try.f5.params[j]? = some t → args[j]? = some v → Value.okWide Try.prog W .any base t v := hval0
  have hW' := hW
  obtain ⟨p, q, hA0, hV, rfl, hfz, hnd⟩ := hW
  have hA : DataW.TrodAll enc Try.prog W 0 (fun _ => true) true Try.f5.params.toList args.toList ds p := hA0
  rw [Try.params5] at hA hval
  obtain ⟨v0, v1, d0, d1, p0, p1, rfl, rfl, rfl, t0, t1⟩ := trodAll_two hA
  have k0 := hval 0 22 _ rfl rfl
  have k1 := hval 1 37 _ rfl rfl
  obtain ⟨now, rfl, hn⟩ := u64_ok k0
  obtain ⟨acts, hs, hr⟩ := script_at k1 t1 (slice_cells Try.underlying37 k1)
  refine (plays_calls hs hr hn).mono ?_
  rintro e W' ⟨he, hbel⟩
  exact ⟨_, he, law_post Try.laidOut readable5 hW' rfl hbel rfl Try.underlying4 (fun h => by rw [h]; rfl)⟩

theorem plays_holds : Rows.WheelPlaysSaid :=
  OpenClaim.holds_of_wide 5 Try.f5 rfl rfl rfl rfl rfl rfl rfl ⟨rfl, rfl, rfl, rfl, rfl⟩ rfl rfl rfl rfl rfl (by kernel_rfl) Try.func5 (by kernel_rfl)
    (of_decide_eq_true (by kernel_rfl)) (by unfold Func.isWrapper; first | (rw [if_pos (by decide +kernel)]; kernel_rfl) | (rw [if_neg (by decide +kernel)]; exact ⟨rfl, rfl⟩))
    (fun os started H enc _ => plays_lifted os started H enc)

#print axioms plays_holds
end Go.Proofs.Ytpmpclieclcbdaa
