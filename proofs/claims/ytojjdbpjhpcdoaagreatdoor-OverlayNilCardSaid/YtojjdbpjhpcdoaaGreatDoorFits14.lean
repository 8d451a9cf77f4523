/- A contract of belfrylaw14.Fits: it answers true or false, and only reads. -/
import Derived.Test.YtojjdbpjhpcdoaaGreatDoorFits10
namespace Go.Proofs.YtojjdbpjhpcdoaaGreatDoor
open Go.RowKit
open Go.AE (SomeBool)

set_option maxHeartbeats 4000000 in
theorem op_any (kd sk n : Value) (k s1 s2 s : ByteArray) (ver at_ ev : Int) (d : Value) (W : World) (h : StepsIn W d) :
    Calls Tryz.prog 4 #[.agg #[kd, .string k, sk, .string s1, .string s2, n, .string s, .int .i64 ver, .int .u64 at_, .int .u64 ev, d]] W fun e w' => SomeBool e ∧ Below W.heap.size W w' := by
  have bel : Below W.heap.size W (W.alloc (.cells #[kd, .string k, sk, .string s1, .string s2, n, .string s, .int .i64 ver, .int .u64 at_, .int .u64 ev, d] 31)) := (Below.refl _ _).alloc (Nat.le_refl _) _
  have H2 : StepsIn (W.alloc (.cells #[kd, .string k, sk, .string s1, .string s2, n, .string s, .int .i64 ver, .int .u64 at_, .int .u64 ev, d] 31)) d := h.later bel
  have HB : Hid (Below W.heap.size W (W.alloc (.cells #[kd, .string k, sk, .string s1, .string s2, n, .string s, .int .i64 ver, .int .u64 at_, .int .u64 ev, d] 31))) := bel
  clear bel h
  by_cases hk : (k.size : Int) ≤ 100
  · by_cases hv : (s1.size : Int) ≤ 100
    · by_cases hu : (s2.size : Int) ≤ 100
      · go_enter Tryz.func4, Tryz.ntmps4
        go_wp2_with (first | (go_at_call 10; refine (fits_any _ _ _ _ _ _ H2).mono ?_; rintro e w' ⟨hsb, hb⟩; rcases hsb with rfl | rfl))
        all_goals
          go_ret
          exact ⟨someBool _, HB.out.trans (hb.mono (by simp))⟩
      · go_enter Tryz.func4, Tryz.ntmps4
        go_wp2
        go_ret
        exact ⟨someBool _, HB.out⟩
    · go_enter Tryz.func4, Tryz.ntmps4
      go_wp2
      go_ret
      exact ⟨someBool _, HB.out⟩
  · go_enter Tryz.func4, Tryz.ntmps4
    go_wp2
    go_ret
    exact ⟨someBool _, HB.out⟩

end Go.Proofs.YtojjdbpjhpcdoaaGreatDoor
