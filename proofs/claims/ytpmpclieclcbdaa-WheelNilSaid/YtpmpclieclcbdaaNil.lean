/- PROVED: the law 'WheelNil' (belfrylaw07): whatever the argument, the call returns true, and the argument reads as it did: no condition beyond the row's own. -/
import Derived.Test.YtpmpclieclcbdaaAeTop
import Derived.Test.YtpmpclieclcbdaaRows
import Derived.ProofKit
import Derived.Lib.SmallJoins
namespace Go.Proofs.Ytpmpclieclcbdaa
open Go.ChangeShapes Go.WideShapes Go.ChangeAt Go.RowKit Go.Joins Go.Deep

theorem Try.own : ownKnob Try.prog.godebug = none := by kernel_rfl
theorem Try.laidOut : laidOutB Try.prog = true := by kernel_rfl

theorem nil_run (k : Int) (s : ByteArray) (a b : Int) : Go.AE.ends Go.AE.isTrueV (Go.AE.run (Go.AE.envOf Try.prog) 20000 (.call 8 #[.agg #[.int .i64 k, .string s, .int .u64 a, .int .u64 b]].toList Go.AE.empty)) = true := by kernel_rfl

theorem nil_args (k : Int) (s : ByteArray) (a b : Int) : Go.AE.VsRel Go.AE.none_ #[Value.agg #[.int .i64 k, .string s, .int .u64 a, .int .u64 b]].toList #[Value.agg #[.int .i64 k, .string s, .int .u64 a, .int .u64 b]].toList :=
  .cons (Go.AE.VRel.agg_of (l := [.int .i64 k, .string s, .int .u64 a, .int .u64 b]) (r := [.int .i64 k, .string s, .int .u64 a, .int .u64 b]) (.cons (.int _ _) (.cons (.string _) (.cons (.int _ _) (.cons (.int _ _) .nil))))) .nil

theorem readable8 : ∀ t ∈ Try.f8.params.toList, Try.prog.readableRec t = true ∧ t < Try.prog.types.size := by
  intro t ht
  rw [Try.params8] at ht
  simp at ht
  subst ht
  exact ⟨by kernel_rfl, of_decide_eq_true (by kernel_rfl)⟩

set_option maxRecDepth 100000 in
theorem nil_lifted (os : Os) (started : os.Started) (H : Type) (enc : TypeId × Value → H) :
    ReturnsInHanded {} Try.checked os 8 .any (Rows.wheelNilSpec.pre6 enc Try.prog Try.f8 Rows.wheelNilRow.domain false) (Rows.wheelNilSpec.post enc Try.prog Try.f8 false true false false) := by
  refine returnsInHanded_of_change (C := Try.checked) Try.own started (by kernel_rfl) Try.func8
    (ChangeSpec.witness6 (enc := enc) (C := Try.checked) false ⟨#[], #[.agg #[.int .i64 0, .string ⟨#[]⟩, .int .u64 0, .int .u64 0]], []⟩ 8 (by kernel_rfl) (by kernel_rfl) (by kernel_rfl) (by kernel_rfl)) ?_
  intro W base args ds gs before hval0 hW hcnd _
  have hval : ∀ (j : Nat) t v, Try.f8.params[j]? = some t → args[j]? = some v → Value.okWide Try.prog W .any base t v := hval0
  have hW' := hW
  obtain ⟨p, q, hA0, hV, rfl, hfz, hnd⟩ := hW
  have hA : DataW.TrodAll enc Try.prog W 0 (fun _ => true) true Try.f8.params.toList args.toList ds p := hA0
  rw [Try.params8] at hA hval
  obtain ⟨v0, d0, rfl, rfl, h0⟩ := trodAll_one hA
  obtain ⟨v0, v1, v2, v3, y0, y1, y2, y3, n, rfl, rfl, rfl, e0, e1, e2, e3⟩ := open_agg4 Try.underlying40 (by kernel_rfl) (by kernel_rfl) (hval 0 40 _ rfl rfl) h0
  obtain ⟨k, hk, _⟩ := DataW.trod_int Try.underlying3 e0
  obtain ⟨s, hs, _⟩ := DataW.trod_string Try.underlying9 e1
  obtain ⟨a, ha, _⟩ := DataW.trod_int Try.underlying22 e2
  obtain ⟨b, hb, _⟩ := DataW.trod_int Try.underlying22 e3
  cases hk; cases hs; cases ha; cases hb
  refine (Go.AE.calls_true (P := Try.prog) (by kernel_rfl) (nil_args k s a b) (nil_run k s a b) W).mono ?_
  rintro e W' ⟨he, hbel⟩
  exact ⟨_, he, Go.AE.law_post Try.laidOut readable8 hW' rfl hbel rfl Try.underlying4 (fun h => by rw [h]; rfl)⟩

theorem nil_holds : Rows.WheelNilSaid :=
  OpenClaim.holds_of_wide 8 Try.f8 rfl rfl rfl rfl rfl rfl rfl ⟨rfl, rfl, rfl, rfl, rfl⟩ rfl rfl rfl rfl rfl (by kernel_rfl) Try.func8 (by kernel_rfl)
    (of_decide_eq_true (by kernel_rfl)) (by unfold Func.isWrapper; first | (rw [if_pos (by decide +kernel)]; kernel_rfl) | (rw [if_neg (by decide +kernel)]; exact ⟨rfl, rfl⟩))
    (fun os started H enc _ => nil_lifted os started H enc)

#print axioms nil_holds
end Go.Proofs.Ytpmpclieclcbdaa
