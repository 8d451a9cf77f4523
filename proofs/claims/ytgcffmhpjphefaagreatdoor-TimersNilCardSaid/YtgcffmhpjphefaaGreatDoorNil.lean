/- PROVED: the law 'TimersNil' (belfrylaw10), as a tied card: whatever the arguments, the call returns true, and the arguments read as they did: where the listed package variables hold what the program's text lays in them (the row's own condition). -/
import Derived.Test.YtgcffmhpjphefaaGreatDoorAeTop
import Derived.Test.YtgcffmhpjphefaaGreatDoorFits
import Derived.Test.YtgcffmhpjphefaaGreatDoorCards
import Derived.Test.YtgcffmhpjphefaaGreatDoorTie
import Derived.ProofKit
import Derived.LaidMore
import Derived.OpenShut
import Derived.Stop.Joined
import Derived.SevenTiedAt
namespace Go.Proofs.YtgcffmhpjphefaaGreatDoor
open Go.ChangeShapes Go.WideShapes Go.ChangeAt Go.RowKit

theorem Tryz.own : ownKnob Tryz.prog.godebug = none := by kernel_rfl
theorem Tryz.laidOut : laidOutB Tryz.prog = true := by kernel_rfl

/-- The functions that have no Go body. -/
def tab : Go.AE.ExtTab := [(91, add64Entry)]
theorem tab_ok : Go.AE.ExtOK Tryz.prog tab := Go.AE.extOK_cons Tryz.f91 Tryz.func91 (by kernel_rfl) (by kernel_rfl) (by kernel_rfl) (by kernel_rfl) (Go.AE.extOK_nil _)

/-- 'Fits' is not gone through: it answers true or false. -/
def hk : Go.AE.HookTab := fun f args => cond (Nat.beq f 8) (match args with
  | [.agg c] => match c.toList with
    | [.string _, .int .i64 _, .int .u64 _, .int .u64 _, .chan (some 0)] => some (2, fun i => .bool (Nat.beq i 0))
    | _ => none
  | _ => none) none

theorem hk_ok {W : World} {v : Value} (hv : StepsIn W v) : Go.AE.HookOK (Go.AE.roadRaw [v] W) (Go.AE.envOf Tryz.prog tab hk) Tryz.prog := by
  intro f args k ans h ρ A w args' hreach hargs
  have h' : hk f args = some (k, ans) := h
  unfold hk at h'
  cases hf : Nat.beq f 8 with
  | false => rw [hf] at h'; cases h'
  | true =>
    rw [hf, cond_true] at h'
    have hf8 := Nat.eq_of_beq_eq_true hf
    subst hf8
    split at h'
    · rename_i c
      split at h'
      · rename_i s ver at_ ev hc
        cases h'
        obtain ⟨l'⟩ := args'
        cases hargs with
        | cons h1 h2 =>
          cases h2
          cases h1 with
          | @agg c0 c' hsz hcs =>
            have hl := Go.AE.VsRel.of_array hsz hcs
            rw [hc] at hl
            obtain ⟨l2⟩ := c'
            simp only at hl
            cases hl with
            | cons g1 hl =>
            cases hl with
            | cons g2 hl =>
            cases hl with
            | cons g3 hl =>
            cases hl with
            | cons g4 hl =>
            cases hl with
            | cons g5 hl =>
            cases hl
            cases g1; cases g2; cases g3; cases g4
            cases g5 with
            | @raw _ L hL hraw =>
              have h0 : Go.AE.rawRen [v] 0 = some ⟨0, 0, 0, 0, v⟩ := rfl
              have := hreach.ext _ _ h0
              rw [hL] at this
              cases this
              refine (fits_any s ver at_ ev v w (hv.later hreach.below)).mono ?_
              rintro e w' ⟨hb | hb, hbel⟩
              · exact ⟨0, by omega, hb, rfl, hbel⟩
              · exact ⟨1, by omega, hb, rfl, hbel⟩
      · cases h'
    · cases h'

theorem nil_run (s : ByteArray) (ver at_ ev now : Int) : Go.AE.ends Go.AE.isTrueV (Go.AE.run (Go.AE.envOf Tryz.prog tab hk) 20000 (.call 6 [.agg #[.string s, .int .i64 ver, .int .u64 at_, .int .u64 ev, .chan (some 0)], .int .u64 now] (Go.AE.startAt 1))) = true := by kernel_rfl

theorem nil_args (s : ByteArray) (ver at_ ev now : Int) {v : Value} (hr : Go.AE.rawOK v = true) :
    Go.AE.VsRel (Go.AE.rawRen [v]) [.agg #[.string s, .int .i64 ver, .int .u64 at_, .int .u64 ev, .chan (some 0)], .int .u64 now] #[.agg #[.string s, .int .i64 ver, .int .u64 at_, .int .u64 ev, v], .int .u64 now].toList :=
  .cons (Go.AE.VRel.agg_of (l := [.string s, .int .i64 ver, .int .u64 at_, .int .u64 ev, .chan (some 0)]) (r := [.string s, .int .i64 ver, .int .u64 at_, .int .u64 ev, v]) (.cons (.string _) (.cons (.int _ _) (.cons (.int _ _) (.cons (.int _ _) (.cons (Go.AE.raw_rel rfl hr) .nil)))))) (.cons (.int _ _) .nil)

theorem readable6 : ∀ t ∈ Tryz.f6.params.toList, Tryz.prog.readableRec t = true ∧ t < Tryz.prog.types.size := by
  intro t ht
  rw [Tryz.params6] at ht
  simp at ht
  rcases ht with rfl | rfl
  · exact ⟨by kernel_rfl, of_decide_eq_true (by kernel_rfl)⟩
  · exact ⟨by kernel_rfl, of_decide_eq_true (by kernel_rfl)⟩

theorem StepsIn.raw {W : World} {v : Value} (h : StepsIn W v) : Go.AE.rawOK v = true := by
  rcases h with rfl | ⟨a, len, cap, rfl, _⟩ <;> rfl

abbrev laid3 := Rows.timersNilRow.laid

theorem door_met (os : Os) (args : Array Value) : laidMetH Tryz.prog laid3 ((World.doorLaid Tryz.prog 4000 os).forCall (fun _ _ => 0) ⟨#[], args, []⟩).memory :=
  laidMetH_of_parts (laidMet_of_run' 8 (by kernel_rfl) (by kernel_rfl)) (by kernel_rfl)

set_option maxRecDepth 100000 in
theorem nil_lifted (os : Os) (started : os.Started) (H : Type) (enc : TypeId × Value → H) :
    ReturnsInHanded {} Tryz.checked os 6 .any (fun w args => (Rows.timersNilSpec.pre enc Tryz.prog Tryz.f6 [] false w args ∧ laidMetH Tryz.prog laid3 w) ∧ sizedMet enc Tryz.prog Tryz.f6 (OpenSpec.ofChange Rows.timersNilSpec) false w args)
      (Rows.timersNilSpec.post enc Tryz.prog Tryz.f6 false true false false) := by
  refine returnsInHanded_of_change_and (C := Tryz.checked) (X := fun w _ => laidMetH Tryz.prog laid3 w) (fun _ _ _ hh h => h.of_heap hh) Tryz.own started (by kernel_rfl) Tryz.func6
    (ChangeSpec.witness_shaped (enc := enc) (C := Tryz.checked) (os := os) (X := fun w _ => laidMetH Tryz.prog laid3 w) false (World.doorLaid Tryz.prog 4000 os) #[.agg #[.string ⟨#[]⟩, .int .i64 0, .int .u64 0, .int .u64 0, .slice none 0 0], .int .u64 0] 8 rfl (World.shaped_of_RefB (by kernel_rfl) (by kernel_rfl)) (by kernel_rfl) (by kernel_rfl) (by kernel_rfl) (door_met os _)) ?_
  intro W base args ds gs before hval0 hW _ _ _ _
  have hval : ∀ (j : Nat) t v, Tryz.f6.params[j]? = some t → args[j]? = some v → Value.okWide Tryz.prog W .any base t v := hval0
  have hW' := hW
  obtain ⟨p, q, hA0, hV, rfl, hfz, hnd⟩ := hW
  have hA : DataW.TrodAll enc Tryz.prog W 0 (fun _ => true) true Tryz.f6.params.toList args.toList ds p := hA0
  rw [Tryz.params6] at hA hval
  obtain ⟨v0, v1, d0, d1, p0, p1, rfl, rfl, rfl, h0, h1⟩ := trodAll_two hA
  obtain ⟨now, rfl, rfl, rfl, wn⟩ := open_int Tryz.underlying22 (hval 1 22 v1 rfl rfl) h1
  obtain ⟨cs, rfl, hsz⟩ := okWide_struct Tryz.underlying30 (hval 0 30 v0 rfl rfl)
  obtain ⟨fuel, hf⟩ := h0
  obtain ⟨xs, n, _, _, _, hxl, hg⟩ := Go.DataW.trod_struct Tryz.underlying30 hf
  have hc5 : cs.toList.length = 5 := by
    have h5 : Tryz.prog.cellsOf 30 = 5 := by kernel_rfl
    rw [h5] at hsz
    simpa using hsz
  obtain ⟨c0, c1, c2, c3, c4, hcs⟩ := list5 hc5
  obtain ⟨l⟩ := cs
  have hcs' : l = [c0, c1, c2, c3, c4] := hcs
  subst hcs'
  have k9 : Tryz.prog.cellsOf 9 = 1 := by kernel_rfl
  have k3 : Tryz.prog.cellsOf 3 = 1 := by kernel_rfl
  have k22 : Tryz.prog.cellsOf 22 = 1 := by kernel_rfl
  have k28 : Tryz.prog.cellsOf 28 = 1 := by kernel_rfl
  have some' : ∀ i, i < 5 → ∃ x, xs[i]? = some x := fun i hi => ⟨_, List.getElem?_eq_getElem (by rw [hxl]; exact hi)⟩
  obtain ⟨x0, hx0⟩ := some' 0 (by omega)
  obtain ⟨x1, hx1⟩ := some' 1 (by omega)
  obtain ⟨x2, hx2⟩ := some' 2 (by omega)
  obtain ⟨x3, hx3⟩ := some' 3 (by omega)
  obtain ⟨x4, hx4⟩ := some' 4 (by omega)
  have g0 : DataW.trod enc Tryz.prog W 0 (fun _ => true) true n 9 (([c0, c1, c2, c3, c4].drop 0).take (Tryz.prog.cellsOf 9)) = xs[0]? := hg 0 _ rfl
  have g1 : DataW.trod enc Tryz.prog W 0 (fun _ => true) true n 3 (([c0, c1, c2, c3, c4].drop 1).take (Tryz.prog.cellsOf 3)) = xs[1]? := hg 1 _ rfl
  have g2 : DataW.trod enc Tryz.prog W 0 (fun _ => true) true n 22 (([c0, c1, c2, c3, c4].drop 2).take (Tryz.prog.cellsOf 22)) = xs[2]? := hg 2 _ rfl
  have g3 : DataW.trod enc Tryz.prog W 0 (fun _ => true) true n 22 (([c0, c1, c2, c3, c4].drop 3).take (Tryz.prog.cellsOf 22)) = xs[3]? := hg 3 _ rfl
  have g4 : DataW.trod enc Tryz.prog W 0 (fun _ => true) true n 28 (([c0, c1, c2, c3, c4].drop 4).take (Tryz.prog.cellsOf 28)) = xs[4]? := hg 4 _ rfl
  rw [k9, hx0] at g0
  rw [k3, hx1] at g1
  rw [k22, hx2] at g2
  rw [k22, hx3] at g3
  rw [k28, hx4] at g4
  obtain ⟨s, e0, _⟩ := Go.DataW.trod_string Tryz.underlying9 g0
  obtain ⟨ver, e1, _⟩ := DataW.trod_int Tryz.underlying3 g1
  obtain ⟨at_, e2, _⟩ := DataW.trod_int Tryz.underlying22 g2
  obtain ⟨ev, e3, _⟩ := DataW.trod_int Tryz.underlying22 g3
  have hsteps : StepsIn W c4 := steps_open g4
  cases e0; cases e1; cases e2; cases e3
  refine (Go.AE.calls_true (P := Tryz.prog) tab_ok (by kernel_rfl) (hk_ok hsteps) (nil_args s ver at_ ev now hsteps.raw) (nil_run s ver at_ ev now)).mono ?_
  rintro e W' ⟨he, hbel⟩
  exact ⟨_, he, Go.AE.law_post Tryz.laidOut readable6 hW' rfl hbel rfl Tryz.underlying4 (fun h => by rw [h]; rfl)⟩

theorem nil_holds : Rows.TimersNilSaid :=
  OpenClaim.holds_of_wide 6 Tryz.f6 rfl rfl rfl rfl rfl rfl rfl ⟨rfl, rfl, rfl, rfl, rfl⟩ rfl rfl rfl rfl rfl (by kernel_rfl) Tryz.func6 (by kernel_rfl)
    (of_decide_eq_true (by kernel_rfl)) (by unfold Func.isWrapper; first | (rw [if_pos (by decide +kernel)]; kernel_rfl) | (rw [if_neg (by decide +kernel)]; exact ⟨rfl, rfl⟩))
    (fun os started H enc _ => nil_lifted os started H enc)

theorem nil_card : Rows.TimersNilCardSaid :=
  Claim7.holds_tied_plain_at .later [] [.data, .data, .data] true (true, "1ae6fc6c3bb4b4e646a778c1e37d6a6b5d9719ea2c6b3c26b35f6ac15c63dffb") true
    nil_holds (fun _ h => by cases h) (by kernel_rfl) (fun _ h => by cases h) timersNil_row_tie rfl ⟨rfl, rfl⟩ (by kernel_rfl) rfl
    (fun f fn hf hfn => by
      obtain rfl : f = 6 := Option.some.inj ((show Tryz.prog.funcNamed "belfry/belfrylaw10.TimersNil" = some 6 by kernel_rfl).symm.trans hf) |>.symm
      obtain rfl : fn = Tryz.f6 := (Option.some.inj (Tryz.func6.symm.trans hfn)).symm
      exact ⟨by kernel_rfl, fun j t ht => by
        rw [Tryz.params6] at ht
        have h3 : t = 30 ∨ t = 22 := by
          rcases j with _ | _ | j
          · left; simpa using ht.symm
          · right; simpa using ht.symm
          · simp at ht
        rcases h3 with rfl | rfl
        · exact (show Tryz.prog.wantsStandIn 30 = false by kernel_rfl)
        · exact (show Tryz.prog.wantsStandIn 22 = false by kernel_rfl)⟩)
    (by kernel_rfl)

#print axioms nil_card
end Go.Proofs.YtgcffmhpjphefaaGreatDoor
