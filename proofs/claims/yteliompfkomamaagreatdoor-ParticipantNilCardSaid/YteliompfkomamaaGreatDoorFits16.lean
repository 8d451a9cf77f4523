/- A contract of belfrylaw16.Fits: it answers true or false, and only reads. -/
import Derived.Test.YteliompfkomamaaGreatDoorFits12
namespace Go.Proofs.YteliompfkomamaaGreatDoor
open Go.RowKit
open Go.AE (SomeBool)

theorem bcell {W w1 : World} (hb : Below W.heap.size W w1) : (∀ b o, b < W.heap.size → w1.cell? ⟨b, o, none⟩ = W.cell? ⟨b, o, none⟩) ∧ (∀ b o, b < W.heap.size → w1.frozen? ⟨b, o, none⟩ = W.frozen? ⟨b, o, none⟩) :=
  ⟨fun b o h => hb.cell (p := ⟨b, o, none⟩) h, fun b o h => hb.frozen (p := ⟨b, o, none⟩) h⟩

set_option maxHeartbeats 4000000 in
theorem msg_any (kd fr to tx : Value) (an ac : Option Addr) (ln lc cn cc : Nat) (W : World) (h : ChangesIn W (.slice ac lc cc)) :
    Calls Tryz.prog 4 #[.agg #[kd, fr, to, tx, .slice an ln cn, .slice ac lc cc]] W fun e w' => SomeBool e ∧ Below W.heap.size W w' := by
  have bel : Below W.heap.size W (W.alloc (.cells #[kd, fr, to, tx, .slice an ln cn, .slice ac lc cc] 26)) := (Below.refl _ _).alloc (Nat.le_refl _) _
  have H2 : ChangesIn (W.alloc (.cells #[kd, fr, to, tx, .slice an ln cn, .slice ac lc cc] 26)) (.slice ac lc cc) := h.later bel
  have HB : Hid (Below W.heap.size W (W.alloc (.cells #[kd, fr, to, tx, .slice an ln cn, .slice ac lc cc] 26))) := bel
  have HC : Hid (ChangesIn (W.alloc (.cells #[kd, fr, to, tx, .slice an ln cn, .slice ac lc cc] 26)) (.slice ac lc cc)) := H2
  clear bel h H2
  by_cases hk : (lc : Int) ≤ 50
  · by_cases hv : (ln : Int) ≤ 50
    · go_enter Tryz.func4, Tryz.ntmps4
      go_wp2_with (first | (go_at_call 12; refine (all_any _ _ HC.out).mono ?_; rintro e w' ⟨hsb, hb⟩; have hc := (bcell hb).1; have HBB : Hid (Below _ _ w') := hb; clear hb; rcases hsb with rfl | rfl))
      all_goals
        go_ret
        exact ⟨someBool _, HB.out.trans (HBB.out.mono (by simp))⟩
    · go_enter Tryz.func4, Tryz.ntmps4
      go_wp2_with (first | (go_at_call 12; refine (all_any _ _ HC.out).mono ?_; rintro e w' ⟨hsb, hb⟩; have hc := (bcell hb).1; have HBB : Hid (Below _ _ w') := hb; clear hb; rcases hsb with rfl | rfl))
      all_goals
        go_ret
        exact ⟨someBool _, HB.out.trans (HBB.out.mono (by simp))⟩
  · go_enter Tryz.func4, Tryz.ntmps4
    go_wp2_with (first | (go_at_call 12; refine (all_any _ _ HC.out).mono ?_; rintro e w' ⟨hsb, hb⟩; have hc := (bcell hb).1; have HBB : Hid (Below _ _ w') := hb; clear hb; rcases hsb with rfl | rfl))
    all_goals
      go_ret
      exact ⟨someBool _, HB.out.trans (HBB.out.mono (by simp))⟩

end Go.Proofs.YteliompfkomamaaGreatDoor
