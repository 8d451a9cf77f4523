/- A contract of belfrylaw10.Fits: it answers true or false, and only reads. -/
import Derived.Test.YthacgilphddekaaGreatDoorRows
import Derived.Test.YthacgilphddekaaGreatDoorAeOpen
import Derived.WalkKit
import Derived.WalkSpells
import Derived.WalkLawsBesides
import Derived.ProofKit
import Derived.Deep.Slices
import Derived.Below
namespace Go.Proofs.YthacgilphddekaaGreatDoor
open Go.RowKit

/-- A list of steps that can be read. -/
def StepsIn (w : World) (v : Value) : Prop :=
  v = .slice none 0 0 ∨ ∃ (a : Addr) (len cap : Nat), v = .slice (some a) len cap ∧ len ≤ maxLen ∧
    ∀ i, i < len → a.block < w.heap.size ∧ ∃ s1 s2 : ByteArray, w.cell? ((a.add (i * 4)).add 1) = some (.string s1) ∧ w.cell? ((a.add (i * 4)).add 2) = some (.string s2) ∧ s1.size ≤ maxLen ∧ s2.size ≤ maxLen

theorem add_block (a : Addr) (n : Nat) : (a.add n).block = a.block := by unfold Addr.add; split <;> rfl

open Go.AE (SomeBool)

theorem someBool (b : Bool) : SomeBool (.returned (.bool b)) := by cases b <;> simp [SomeBool]

set_option maxHeartbeats 1000000 in
theorem fits_nil (s : ByteArray) (ver at_ ev : Int) (W : World) :
    Calls Tryz.prog 160 #[.agg #[.string s, .int .i64 ver, .int .u64 at_, .int .u64 ev, .slice none 0 0]] W fun e w' => SomeBool e ∧ Below W.heap.size W w' := by
  go_enter Tryz.func160, Tryz.ntmps160
  go_wp2
  go_loop [3] (fun i => i = .int .i64 0) (fun i => (intOf i).toNat)
  case atStart => exact rfl
  case round =>
    subst hrel
    go_wp2
    go_ret
    exact ⟨someBool _, (Below.refl _ _).alloc (Nat.le_refl _) _⟩

set_option maxHeartbeats 2000000 in
theorem fits_some (s : ByteArray) (ver at_ ev : Int) (a : Addr) (len cap : Nat) (W : World) (hl : len ≤ maxLen)
    (hc : ∀ i, i < len → a.block < W.heap.size ∧ ∃ s1 s2 : ByteArray, W.cell? ((a.add (i * 4)).add 1) = some (.string s1) ∧ W.cell? ((a.add (i * 4)).add 2) = some (.string s2) ∧ s1.size ≤ maxLen ∧ s2.size ≤ maxLen) :
    Calls Tryz.prog 160 #[.agg #[.string s, .int .i64 ver, .int .u64 at_, .int .u64 ev, .slice (some a) len cap]] W fun e w' => SomeBool e ∧ Below W.heap.size W w' := by
  unfold maxLen at hl
  have HC : Hid (∀ i, i < len → a.block < W.heap.size ∧ ∃ s1 s2 : ByteArray, W.cell? ((a.add (i * 4)).add 1) = some (.string s1) ∧ W.cell? ((a.add (i * 4)).add 2) = some (.string s2) ∧ s1.size ≤ maxLen ∧ s2.size ≤ maxLen) := hc
  clear hc
  go_enter Tryz.func160, Tryz.ntmps160
  go_wp2
  go_loop [3] (fun i => ∃ k : Nat, k ≤ len ∧ i = .int .i64 k) (fun i => len - (intOf i).toNat)
  case atStart => exact ⟨0, Nat.zero_le _, rfl⟩
  case round =>
    obtain ⟨k, hk, rfl⟩ := hrel
    by_cases hlt : k < len
    · obtain ⟨hb, s1, s2, h1, h2, h3, h4⟩ := HC.out k hlt
      have h1' : (W.alloc (.cells #[.string s, .int .i64 ver, .int .u64 at_, .int .u64 ev, .slice (some a) len cap] 50)).cell? ⟨(a.add (k * 4)).block, (a.add (k * 4)).off + 1, none⟩ = some (.string s1) := by
        rw [World.cell?_alloc_old _ _ _ (by simp only [add_block]; omega)]; exact h1
      have h2' : (W.alloc (.cells #[.string s, .int .i64 ver, .int .u64 at_, .int .u64 ev, .slice (some a) len cap] 50)).cell? ⟨(a.add (k * 4)).block, (a.add (k * 4)).off + 2, none⟩ = some (.string s2) := by
        rw [World.cell?_alloc_old _ _ _ (by simp only [add_block]; omega)]; exact h2
      clear h1 h2 hb
      unfold maxLen at h3 h4
      go_wp2
      all_goals first
        | (go_ret; exact ⟨someBool _, (Below.refl _ _).alloc (Nat.le_refl _) _⟩)
        | (go_round
           case rel => exact ⟨k + 1, by omega, by go_num⟩
           case measure => simp [intOf]; omega)
    · go_wp2
      go_ret
      exact ⟨someBool _, (Below.refl _ _).alloc (Nat.le_refl _) _⟩

theorem fits_any (s : ByteArray) (ver at_ ev : Int) (v : Value) (W : World) (h : StepsIn W v) :
    Calls Tryz.prog 160 #[.agg #[.string s, .int .i64 ver, .int .u64 at_, .int .u64 ev, v]] W fun e w' => SomeBool e ∧ Below W.heap.size W w' := by
  rcases h with rfl | ⟨a, len, cap, rfl, hl, hc⟩
  · exact fits_nil s ver at_ ev W
  · exact fits_some s ver at_ ev a len cap W hl hc

theorem StepsIn.later {W w : World} {v : Value} (h : StepsIn W v) (hb : Below W.heap.size W w) : StepsIn w v := by
  rcases h with rfl | ⟨a, len, cap, rfl, hl, hc⟩
  · exact .inl rfl
  · refine .inr ⟨a, len, cap, rfl, hl, fun i hi => ?_⟩
    obtain ⟨h0, s1, s2, h1, h2, h3, h4⟩ := hc i hi
    exact ⟨Nat.lt_of_lt_of_le h0 hb.size, s1, s2, by rw [hb.cell (by simp only [add_block]; exact h0)]; exact h1, by rw [hb.cell (by simp only [add_block]; exact h0)]; exact h2, h3, h4⟩

theorem cell_block {w : World} {a : Addr} {v : Value} (h : w.cell? a = some v) : a.block < w.heap.size := by
  unfold World.cell? at h
  cases hb : w.heap[a.block]? with
  | none => rw [hb] at h; simp at h
  | some o => exact (Array.getElem?_eq_some_iff.1 hb).1

theorem steps_open {H : Type} {enc : TypeId × Value → H} {W : World} {base : Nat} {held : Bool} {c : Value}
    (h : Go.AE.LeafOK enc Tryz.prog W base held (.slice 227) c) : StepsIn W c := by
  rcases h with rfl | ⟨a, len, cap, rfl, hl, hi⟩
  · exact .inl rfl
  · refine .inr ⟨a, len, cap, rfl, hl, fun i hlt => ?_⟩
    obtain ⟨cs, n, x, hc, ht⟩ := hi i hlt
    have hcc : Tryz.prog.cellsOf 227 = 4 := by kernel_rfl
    rw [hcc] at hc
    obtain ⟨_, hcl, hat⟩ := World.cells?_some hc
    have hr := Go.AE.leaves_sound enc Tryz.prog W base held 4 227 [.int .i64, .str, .str, .int .i64] (by kernel_rfl) (by kernel_rfl) _ _ _ ht
    cases hr with
    | cons h0 hr =>
    cases hr with
    | cons h1 hr =>
    cases hr with
    | cons h2 hr =>
    cases hr with
    | cons h3 hr =>
    cases hr
    obtain ⟨s1, rfl, z1⟩ := h1
    obtain ⟨s2, rfl, z2⟩ := h2
    have a1 := hat 1 (by omega)
    have a2 := hat 2 (by omega)
    simp only [List.getElem?_cons_succ, List.getElem?_cons_zero] at a1 a2
    have hblk := cell_block a1
    simp only [add_block] at hblk
    exact ⟨hblk, s1, s2, a1, a2, z1, z2⟩

theorem StepsIn.raw {W : World} {v : Value} (h : StepsIn W v) : Go.AE.rawOK v = true := by
  rcases h with rfl | ⟨a, len, cap, rfl, _⟩ <;> rfl

end Go.Proofs.YthacgilphddekaaGreatDoor
