/- Contracts of belfrylaw12.Fits and FitsAll: they answer true or false, and only read. -/
import Derived.Test.YthacgilphddekaaGreatDoorFits10
namespace Go.Proofs.YthacgilphddekaaGreatDoor
open Go.RowKit
open Go.AE (SomeBool)

set_option maxHeartbeats 2000000 in
theorem fit1_any (kd : Value) (k v s : ByteArray) (ver at_ ev : Int) (d : Value) (W : World) (h : StepsIn W d) :
    Calls Tryz.prog 93 #[.agg #[kd, .string k, .string v, .string s, .int .i64 ver, .int .u64 at_, .int .u64 ev, d]] W fun e w' => SomeBool e ∧ Below W.heap.size W w' := by
  have bel : Below W.heap.size W (W.alloc (.cells #[kd, .string k, .string v, .string s, .int .i64 ver, .int .u64 at_, .int .u64 ev, d] 52)) := (Below.refl _ _).alloc (Nat.le_refl _) _
  have H2 : StepsIn (W.alloc (.cells #[kd, .string k, .string v, .string s, .int .i64 ver, .int .u64 at_, .int .u64 ev, d] 52)) d := h.later bel
  have HB : Hid (Below W.heap.size W (W.alloc (.cells #[kd, .string k, .string v, .string s, .int .i64 ver, .int .u64 at_, .int .u64 ev, d] 52))) := bel
  clear bel h
  by_cases hk : (k.size : Int) ≤ 100
  · by_cases hv : (v.size : Int) ≤ 100
    · go_enter Tryz.func93, Tryz.ntmps93
      go_wp2_with (first | (go_at_call 160; refine (fits_any _ _ _ _ _ _ H2).mono ?_; rintro e w' ⟨hsb, hb⟩; rcases hsb with rfl | rfl))
      all_goals
        go_ret
        exact ⟨someBool _, HB.out.trans (hb.mono (by simp))⟩
    · go_enter Tryz.func93, Tryz.ntmps93
      go_wp2
      go_ret
      exact ⟨someBool _, HB.out⟩
  · go_enter Tryz.func93, Tryz.ntmps93
    go_wp2
    go_ret
    exact ⟨someBool _, HB.out⟩

/-- A change that can be read. -/
def ChangeAt (w : World) (a : Addr) : Prop := ∃ (kd : Value) (k v s : ByteArray) (ver at_ ev : Int) (d : Value), StepsIn w d ∧ a.block < w.heap.size ∧
  w.cell? a = some kd ∧ w.cell? (a.add 1) = some (.string k) ∧ w.cell? (a.add 2) = some (.string v) ∧ w.cell? (a.add 3) = some (.string s) ∧
  w.cell? (a.add 4) = some (.int .i64 ver) ∧ w.cell? (a.add 5) = some (.int .u64 at_) ∧ w.cell? (a.add 6) = some (.int .u64 ev) ∧ w.cell? (a.add 7) = some d

theorem ChangeAt.later {W w : World} {a : Addr} (h : ChangeAt W a) (hb : Below W.heap.size W w) : ChangeAt w a := by
  obtain ⟨kd, k, v, s, ver, at_, ev, d, h0, hblk, h1, h2, h3, h4, h5, h6, h7, h8⟩ := h
  have e : ∀ n, w.cell? (a.add n) = W.cell? (a.add n) := fun n => hb.cell (by unfold Addr.add; split <;> exact hblk)
  exact ⟨kd, k, v, s, ver, at_, ev, d, h0.later hb, Nat.lt_of_lt_of_le hblk hb.size, by rw [hb.cell hblk]; exact h1, by rw [e]; exact h2, by rw [e]; exact h3, by rw [e]; exact h4, by rw [e]; exact h5, by rw [e]; exact h6, by rw [e]; exact h7, by rw [e]; exact h8⟩

def ChangesIn (w : World) (v : Value) : Prop :=
  v = .slice none 0 0 ∨ ∃ (a : Addr) (len cap : Nat), v = .slice (some a) len cap ∧ len ≤ maxLen ∧ ∀ i, i < len → ChangeAt w (a.add (i * 8))

set_option maxHeartbeats 1000000 in
theorem all_nil (W : World) : Calls Tryz.prog 53 #[.slice none 0 0] W fun e w' => SomeBool e ∧ Below W.heap.size W w' := by
  go_enter Tryz.func53, Tryz.ntmps53
  go_wp2
  go_loop [3] (fun i => i = .int .i64 0) (fun i => (intOf i).toNat)
  case atStart => exact rfl
  case round =>
    subst hrel
    go_wp2
    go_ret
    exact ⟨someBool _, Below.refl _ _⟩

set_option maxHeartbeats 2000000 in
theorem all_some (a : Addr) (len cap : Nat) (W : World) (hl : len ≤ maxLen) (hc : ∀ i, i < len → ChangeAt W (a.add (i * 8))) :
    Calls Tryz.prog 53 #[.slice (some a) len cap] W fun e w' => SomeBool e ∧ Below W.heap.size W w' := by
  unfold maxLen at hl
  have HC : Hid (∀ i, i < len → ChangeAt W (a.add (i * 8))) := hc
  clear hc
  go_enter Tryz.func53, Tryz.ntmps53
  go_wp2
  go_loopw [3, 4] (fun i _ w => (∃ k : Nat, k ≤ len ∧ i = .int .i64 k) ∧ Below W.heap.size W w) (fun i _ _ => len - (intOf i).toNat)
  case atStart => exact ⟨⟨0, Nat.zero_le _, rfl⟩, Below.refl _ _⟩
  case round =>
    obtain ⟨⟨k, hk, rfl⟩, hbel⟩ := hrel
    have HB : Hid (Below W.heap.size W wr) := hbel
    by_cases hlt : k < len
    · obtain ⟨kd, ky, vl, nm, ver, at_, ev, d, hd, hblk, h0, h1, h2, h3, h4, h5, h6, h7⟩ := (HC.out k hlt).later hbel
      have HD : Hid (StepsIn wr d) := hd
      clear hbel hblk hd
      have g1 : wr.cell? ⟨(a.add (k * 8)).block, (a.add (k * 8)).off + 1, none⟩ = some (.string ky) := h1
      have g2 : wr.cell? ⟨(a.add (k * 8)).block, (a.add (k * 8)).off + 2, none⟩ = some (.string vl) := h2
      have g3 : wr.cell? ⟨(a.add (k * 8)).block, (a.add (k * 8)).off + 3, none⟩ = some (.string nm) := h3
      have g4 : wr.cell? ⟨(a.add (k * 8)).block, (a.add (k * 8)).off + 4, none⟩ = some (.int .i64 ver) := h4
      have g5 : wr.cell? ⟨(a.add (k * 8)).block, (a.add (k * 8)).off + 5, none⟩ = some (.int .u64 at_) := h5
      have g6 : wr.cell? ⟨(a.add (k * 8)).block, (a.add (k * 8)).off + 6, none⟩ = some (.int .u64 ev) := h6
      have g7 : wr.cell? ⟨(a.add (k * 8)).block, (a.add (k * 8)).off + 7, none⟩ = some d := h7
      clear h1 h2 h3 h4 h5 h6 h7
      go_wp2_with (first | (go_at_call 93; refine (fit1_any _ _ _ _ _ _ _ _ _ HD.out).mono ?_; rintro e w' ⟨hsb, hb⟩; rcases hsb with rfl | rfl))
      all_goals first
        | (go_ret; exact ⟨someBool _, HB.out.trans (hb.mono HB.out.size)⟩)
        | (go_roundw
           case rel => exact ⟨⟨k + 1, by omega, by go_num⟩, HB.out.trans (hb.mono HB.out.size)⟩
           case measure => simp [intOf]; omega)
        | go_outline
    · clear hbel
      go_wp2
      go_ret
      exact ⟨someBool _, HB.out⟩

theorem changes_open {H : Type} {enc : TypeId × Value → H} {W : World} {base : Nat} {held : Bool} {c : Value}
    (h : Go.AE.LeafOK enc Tryz.prog W base held (.slice 52) c) : ChangesIn W c := by
  rcases h with rfl | ⟨a, len, cap, rfl, hl, hi⟩
  · exact .inl rfl
  · refine .inr ⟨a, len, cap, rfl, hl, fun i hlt => ?_⟩
    obtain ⟨cs, n, x, hc, ht⟩ := hi i hlt
    have hcc : Tryz.prog.cellsOf 52 = 8 := by kernel_rfl
    rw [hcc] at hc
    obtain ⟨_, hcl, hat⟩ := World.cells?_some hc
    have hr := Go.AE.leaves_sound enc Tryz.prog W base held 5 52 [.int .i64, .str, .str, .str, .int .i64, .int .u64, .int .u64, .slice 227] (by kernel_rfl) (by kernel_rfl) _ _ _ ht
    cases hr with
    | cons h0 hr =>
    cases hr with
    | cons h1 hr =>
    cases hr with
    | cons h2 hr =>
    cases hr with
    | cons h3 hr =>
    cases hr with
    | cons h4 hr =>
    cases hr with
    | cons h5 hr =>
    cases hr with
    | cons h6 hr =>
    cases hr with
    | cons h7 hr =>
    cases hr
    obtain ⟨k, rfl, _⟩ := h1
    obtain ⟨v, rfl, _⟩ := h2
    obtain ⟨s, rfl, _⟩ := h3
    obtain ⟨ver, rfl⟩ := h4
    obtain ⟨at_, rfl⟩ := h5
    obtain ⟨ev, rfl⟩ := h6
    have hd := steps_open h7
    have a0 := hat 0 (by omega)
    have hblk := cell_block a0
    simp only [add_block] at hblk
    have e0 : (a.add (i * 8)).add 0 = a.add (i * 8) := by simp [Addr.add]
    rw [e0] at a0
    exact ⟨_, k, v, s, ver, at_, ev, _, hd, by rw [add_block]; exact hblk, a0, hat 1 (by omega), hat 2 (by omega), hat 3 (by omega), hat 4 (by omega), hat 5 (by omega), hat 6 (by omega), hat 7 (by omega)⟩

theorem all_any (v : Value) (W : World) (h : ChangesIn W v) : Calls Tryz.prog 53 #[v] W fun e w' => SomeBool e ∧ Below W.heap.size W w' := by
  rcases h with rfl | ⟨a, len, cap, rfl, hl, hc⟩
  · exact all_nil W
  · exact all_some a len cap W hl hc

theorem ChangesIn.later {W w : World} {v : Value} (h : ChangesIn W v) (hb : Below W.heap.size W w) : ChangesIn w v := by
  rcases h with rfl | ⟨a, len, cap, rfl, hl, hc⟩
  · exact .inl rfl
  · exact .inr ⟨a, len, cap, rfl, hl, fun i hi => (hc i hi).later hb⟩

theorem ChangesIn.raw {W : World} {v : Value} (h : ChangesIn W v) : v = .slice none 0 0 ∨ ∃ a len cap, v = .slice (some a) len cap := by
  rcases h with rfl | ⟨a, len, cap, rfl, _⟩
  · exact .inl rfl
  · exact .inr ⟨a, len, cap, rfl⟩

end Go.Proofs.YthacgilphddekaaGreatDoor
