/- A contract of belfrylaw15's fits: it answers true or false, and only reads. -/
import Derived.Test.YteliompfkomamabGreatDoorFits12
namespace Go.Proofs.YteliompfkomamabGreatDoor
open Go.RowKit
open Go.AE (SomeBool)

theorem bcell {W w1 : World} (hb : Below W.heap.size W w1) : (∀ b o, b < W.heap.size → w1.cell? ⟨b, o, none⟩ = W.cell? ⟨b, o, none⟩) ∧ (∀ b o, b < W.heap.size → w1.frozen? ⟨b, o, none⟩ = W.frozen? ⟨b, o, none⟩) :=
  ⟨fun b o h => hb.cell (p := ⟨b, o, none⟩) h, fun b o h => hb.frozen (p := ⟨b, o, none⟩) h⟩

set_option maxHeartbeats 8000000 in
theorem act_any (kd tx at2 kp : Value) (yes : Bool) (an al ab : Option Addr) (ln cn ll cl lb cb : Nat) (s : ByteArray) (ver at_ ev : Int) (d : Value) (W : World) (hL : ChangesIn W (.slice al ll cl)) (hS : StepsIn W d) :
    Calls Tryz.prog 4 #[.agg #[kd, tx, .bool yes, .slice an ln cn, .slice al ll cl, .string s, .int .i64 ver, .int .u64 at_, .int .u64 ev, d, at2, kp, .slice ab lb cb]] W fun e w' => SomeBool e ∧ Below W.heap.size W w' := by
  have bel : Below W.heap.size W (W.alloc (.cells #[kd, tx, .bool yes, .slice an ln cn, .slice al ll cl, .string s, .int .i64 ver, .int .u64 at_, .int .u64 ev, d, at2, kp, .slice ab lb cb] 30)) := (Below.refl _ _).alloc (Nat.le_refl _) _
  have HC : Hid (ChangesIn (W.alloc (.cells #[kd, tx, .bool yes, .slice an ln cn, .slice al ll cl, .string s, .int .i64 ver, .int .u64 at_, .int .u64 ev, d, at2, kp, .slice ab lb cb] 30)) (.slice al ll cl)) := hL.later bel
  have HS : Hid (StepsIn (W.alloc (.cells #[kd, tx, .bool yes, .slice an ln cn, .slice al ll cl, .string s, .int .i64 ver, .int .u64 at_, .int .u64 ev, d, at2, kp, .slice ab lb cb] 30)) d) := hS.later bel
  have HB : Hid (Below W.heap.size W (W.alloc (.cells #[kd, tx, .bool yes, .slice an ln cn, .slice al ll cl, .string s, .int .i64 ver, .int .u64 at_, .int .u64 ev, d, at2, kp, .slice ab lb cb] 30))) := bel
  clear bel hL hS
  by_cases h1 : (ln : Int) ≤ 40 <;> by_cases h2 : (lb : Int) ≤ 300 <;> by_cases h3 : (ll : Int) ≤ 120
  all_goals
    go_enter Tryz.func4, Tryz.ntmps4
    go_wp2_with (first
      | (go_at_call 16; refine (all_any _ _ HC.out).mono ?_; rintro e w' ⟨hsb, hb⟩; have hc := (bcell hb).1; have hz : W.heap.size < w'.heap.size := (by have := hb.size; simp at this; omega); have HS2 : Hid (StepsIn w' d) := HS.out.later hb; have HBB : Hid (Below _ _ w') := hb; clear hb; rcases hsb with rfl | rfl)
      | (go_at_call 17; refine (fits_any _ _ _ _ _ _ HS2.out).mono ?_; rintro e w'' ⟨hsb, hb⟩; have hc2 := (bcell hb).1; have HB2 : Hid (Below _ _ w'') := hb; clear hb; rcases hsb with rfl | rfl))
    all_goals
      go_ret
      exact ⟨someBool _, (HB.out.trans (HBB.out.mono (by simp))).trans (HB2.out.mono (by omega))⟩

end Go.Proofs.YteliompfkomamabGreatDoor
