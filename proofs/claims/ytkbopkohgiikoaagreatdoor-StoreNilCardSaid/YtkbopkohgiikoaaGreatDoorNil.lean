/- PROVED: the law 'StoreNil' (belfrylaw12), as a tied card: whatever the arguments, the call returns true, and the arguments read as they did: where the listed package variables hold what the program's text lays in them (the row's own condition). -/
import Derived.Test.YtkbopkohgiikoaaGreatDoorAeTop
import Derived.Test.YtkbopkohgiikoaaGreatDoorAll
import Derived.Test.YtkbopkohgiikoaaGreatDoorCards
import Derived.Test.YtkbopkohgiikoaaGreatDoorTie
import Derived.ProofKit
import Derived.LaidMore
import Derived.OpenShut
import Derived.Stop.Joined
import Derived.SevenTiedAt
namespace Go.Proofs.YtkbopkohgiikoaaGreatDoor
open Go.ChangeShapes Go.WideShapes Go.ChangeAt Go.RowKit

theorem Tryz.own : ownKnob Tryz.prog.godebug = none := by kernel_rfl
theorem Tryz.laidOut : laidOutB Tryz.prog = true := by kernel_rfl

/-- 'FitsAll' is not gone through: it answers true or false. -/
def hk : Go.AE.HookTab := fun f args => cond (Nat.beq f 4) (match args with
  | [.chan (some 0)] => some (2, fun i => .bool (Nat.beq i 0))
  | _ => none) none

theorem hk_ok {W : World} {v : Value} (hv : ChangesIn W v) : Go.AE.HookOK (Go.AE.roadRaw [v] W) (Go.AE.envOf Tryz.prog [] hk) Tryz.prog := by
  intro f args k ans h ρ A w args' hreach hargs
  have h' : hk f args = some (k, ans) := h
  unfold hk at h'
  cases hf : Nat.beq f 4 with
  | false => rw [hf] at h'; cases h'
  | true =>
    rw [hf, cond_true] at h'
    have hf8 := Nat.eq_of_beq_eq_true hf
    subst hf8
    split at h'
    · cases h'
      obtain ⟨l'⟩ := args'
      cases hargs with
      | cons h1 h2 =>
        cases h2
        cases h1 with
        | @raw _ L hL hraw =>
          have h0 : Go.AE.rawRen [v] 0 = some ⟨0, 0, 0, 0, v⟩ := rfl
          have := hreach.ext _ _ h0
          rw [hL] at this
          cases this
          refine (all_any v w (hv.later hreach.below)).mono ?_
          rintro e w' ⟨hb | hb, hbel⟩
          · exact ⟨0, by omega, hb, rfl, hbel⟩
          · exact ⟨1, by omega, hb, rfl, hbel⟩
    · cases h'

theorem nil_run (now : Int) : Go.AE.ends Go.AE.isTrueV (Go.AE.run (Go.AE.envOf Tryz.prog [] hk) 20000 (.call 3 [.chan (some 0), .int .u64 now] (Go.AE.startAt 1))) = true := by kernel_rfl

theorem nil_args (now : Int) {v : Value} (hr : Go.AE.rawOK v = true) : Go.AE.VsRel (Go.AE.rawRen [v]) [.chan (some 0), .int .u64 now] #[v, .int .u64 now].toList :=
  .cons (Go.AE.raw_rel rfl hr) (.cons (.int _ _) .nil)

theorem readable3 : ∀ t ∈ Tryz.f3.params.toList, Tryz.prog.readableRec t = true ∧ t < Tryz.prog.types.size := by
  intro t ht
  rw [Tryz.params3] at ht
  simp at ht
  rcases ht with rfl | rfl
  · exact ⟨by kernel_rfl, of_decide_eq_true (by kernel_rfl)⟩
  · exact ⟨by kernel_rfl, of_decide_eq_true (by kernel_rfl)⟩

theorem ChangesIn.rawOK {W : World} {v : Value} (h : ChangesIn W v) : Go.AE.rawOK v = true := by
  rcases h.raw with rfl | ⟨a, len, cap, rfl⟩ <;> rfl

abbrev laid3 := Rows.storeNilRow.laid

theorem door_met (os : Os) (args : Array Value) : laidMetH Tryz.prog laid3 ((World.doorLaid Tryz.prog 4000 os).forCall (fun _ _ => 0) ⟨#[], args, []⟩).memory :=
  laidMetH_of_parts (laidMet_of_run' 8 (by kernel_rfl) (by kernel_rfl)) (by kernel_rfl)

set_option maxRecDepth 100000 in
theorem nil_lifted (os : Os) (started : os.Started) (H : Type) (enc : TypeId × Value → H) :
    ReturnsInHanded {} Tryz.checked os 3 .any (fun w args => (Rows.storeNilSpec.pre enc Tryz.prog Tryz.f3 [] false w args ∧ laidMetH Tryz.prog laid3 w) ∧ sizedMet enc Tryz.prog Tryz.f3 (OpenSpec.ofChange Rows.storeNilSpec) false w args)
      (Rows.storeNilSpec.post enc Tryz.prog Tryz.f3 false true false false) := by
  refine returnsInHanded_of_change_and (C := Tryz.checked) (X := fun w _ => laidMetH Tryz.prog laid3 w) (fun _ _ _ hh h => h.of_heap hh) Tryz.own started (by kernel_rfl) Tryz.func3
    (ChangeSpec.witness_shaped (enc := enc) (C := Tryz.checked) (os := os) (X := fun w _ => laidMetH Tryz.prog laid3 w) false (World.doorLaid Tryz.prog 4000 os) #[.slice none 0 0, .int .u64 0] 8 rfl (World.shaped_of_RefB (by kernel_rfl) (by kernel_rfl)) (by kernel_rfl) (by kernel_rfl) (by kernel_rfl) (door_met os _)) ?_
  intro W base args ds gs before hval0 hW _ _ _ _
  have hval : ∀ (j : Nat) t v, Tryz.f3.params[j]? = some t → args[j]? = some v → Value.okWide Tryz.prog W .any base t v := hval0
  have hW' := hW
  obtain ⟨p, q, hA0, hV, rfl, hfz, hnd⟩ := hW
  have hA : DataW.TrodAll enc Tryz.prog W 0 (fun _ => true) true Tryz.f3.params.toList args.toList ds p := hA0
  rw [Tryz.params3] at hA hval
  obtain ⟨v0, v1, d0, d1, p0, p1, rfl, rfl, rfl, h0, h1⟩ := trodAll_two hA
  obtain ⟨now, rfl, rfl, rfl, wn⟩ := open_int Tryz.underlying23 (hval 1 23 v1 rfl rfl) h1
  obtain ⟨fuel, hf⟩ := h0
  obtain ⟨a, len, cap, rfl⟩ := okWide_slice Tryz.underlying22 (hval 0 22 v0 rfl rfl)
  have hcs : ChangesIn W (.slice a len cap) := changes_open (c := .slice a len cap) hf
  refine (Go.AE.calls_true (P := Tryz.prog) (Go.AE.extOK_nil _) (by kernel_rfl) (hk_ok hcs) (nil_args now hcs.rawOK) (nil_run now)).mono ?_
  rintro e W' ⟨he, hbel⟩
  exact ⟨_, he, Go.AE.law_post Tryz.laidOut readable3 hW' rfl hbel rfl Tryz.underlying4 (fun h => by rw [h]; rfl)⟩

theorem nil_holds : Rows.StoreNilSaid :=
  OpenClaim.holds_of_wide 3 Tryz.f3 rfl rfl rfl rfl rfl rfl rfl ⟨rfl, rfl, rfl, rfl, rfl⟩ rfl rfl rfl rfl rfl (by kernel_rfl) Tryz.func3 (by kernel_rfl)
    (of_decide_eq_true (by kernel_rfl)) (by unfold Func.isWrapper; first | (rw [if_pos (by decide +kernel)]; kernel_rfl) | (rw [if_neg (by decide +kernel)]; exact ⟨rfl, rfl⟩))
    (fun os started H enc _ => nil_lifted os started H enc)

theorem nil_card : Rows.StoreNilCardSaid :=
  Claim7.holds_tied_plain_at .later [] [.data, .data, .data] true (true, "a6cc79957b82af9bd1467139569cfcf0202d7a0c0aa307483e8b049f2644cfb4") true
    nil_holds (fun _ h => by cases h) (by kernel_rfl) (fun _ h => by cases h) storeNil_row_tie rfl ⟨rfl, rfl⟩ (by kernel_rfl) rfl
    (fun f fn hf hfn => by
      obtain rfl : f = 3 := Option.some.inj ((show Tryz.prog.funcNamed "belfry/belfrylaw12.StoreNil" = some 3 by kernel_rfl).symm.trans hf) |>.symm
      obtain rfl : fn = Tryz.f3 := (Option.some.inj (Tryz.func3.symm.trans hfn)).symm
      exact ⟨by kernel_rfl, fun j t ht => by
        rw [Tryz.params3] at ht
        have h3 : t = 22 ∨ t = 23 := by
          rcases j with _ | _ | j
          · left; simpa using ht.symm
          · right; simpa using ht.symm
          · simp at ht
        rcases h3 with rfl | rfl
        · exact (show Tryz.prog.wantsStandIn 22 = false by kernel_rfl)
        · exact (show Tryz.prog.wantsStandIn 23 = false by kernel_rfl)⟩)
    (by kernel_rfl)

#print axioms nil_card
end Go.Proofs.YtkbopkohgiikoaaGreatDoor
