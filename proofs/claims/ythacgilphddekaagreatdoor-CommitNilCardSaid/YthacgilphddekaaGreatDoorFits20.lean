/- A contract of belfrylaw20.few: it answers true or false, and only reads. -/
import Derived.Test.YthacgilphddekaaGreatDoorFits12
namespace Go.Proofs.YthacgilphddekaaGreatDoor
open Go.RowKit
open Go.AE (SomeBool)

/-- A share that can be read. -/
def ShareAt (w : World) (a : Addr) : Prop := ∃ (nd : Value) (ac : Option Addr) (lc cc : Nat), ChangesIn w (.slice ac lc cc) ∧ a.block < w.heap.size ∧ w.cell? a = some nd ∧ w.cell? (a.add 1) = some (.slice ac lc cc)

theorem ShareAt.later {W w : World} {a : Addr} (h : ShareAt W a) (hb : Below W.heap.size W w) : ShareAt w a := by
  obtain ⟨nd, ac, lc, cc, h0, hblk, h1, h2⟩ := h
  have e : ∀ n, w.cell? (a.add n) = W.cell? (a.add n) := fun n => hb.cell (by unfold Addr.add; split <;> exact hblk)
  exact ⟨nd, ac, lc, cc, h0.later hb, Nat.lt_of_lt_of_le hblk hb.size, by rw [hb.cell hblk]; exact h1, by rw [e]; exact h2⟩

def SharesIn (w : World) (v : Value) : Prop :=
  v = .slice none 0 0 ∨ ∃ (a : Addr) (len cap : Nat), v = .slice (some a) len cap ∧ len ≤ maxLen ∧ ∀ i, i < len → ShareAt w (a.add (i * 2))

theorem SharesIn.later {W w : World} {v : Value} (h : SharesIn W v) (hb : Below W.heap.size W w) : SharesIn w v := by
  rcases h with rfl | ⟨a, len, cap, rfl, hl, hc⟩
  · exact .inl rfl
  · exact .inr ⟨a, len, cap, rfl, hl, fun i hi => (hc i hi).later hb⟩

set_option maxHeartbeats 1000000 in
theorem few_nil (W : World) : Calls Tryz.prog 24 #[.slice none 0 0] W fun e w' => SomeBool e ∧ Below W.heap.size W w' := by
  go_enter Tryz.func24, Tryz.ntmps24
  go_wp2
  go_loop [3] (fun i => i = .int .i64 0) (fun i => (intOf i).toNat)
  case atStart => exact rfl
  case round =>
    subst hrel
    go_wp2
    go_ret
    exact ⟨someBool _, Below.refl _ _⟩

set_option maxHeartbeats 4000000 in
theorem few_some (a : Addr) (len cap : Nat) (W : World) (hl : len ≤ maxLen) (hc : ∀ i, i < len → ShareAt W (a.add (i * 2))) :
    Calls Tryz.prog 24 #[.slice (some a) len cap] W fun e w' => SomeBool e ∧ Below W.heap.size W w' := by
  unfold maxLen at hl
  have HC : Hid (∀ i, i < len → ShareAt W (a.add (i * 2))) := hc
  clear hc
  go_enter Tryz.func24, Tryz.ntmps24
  go_wp2
  go_loopw [3, 4] (fun i _ w => (∃ k : Nat, k ≤ len ∧ i = .int .i64 k) ∧ Below W.heap.size W w) (fun i _ _ => len - (intOf i).toNat)
  case atStart => exact ⟨⟨0, Nat.zero_le _, rfl⟩, Below.refl _ _⟩
  case round =>
    obtain ⟨⟨k, hk, rfl⟩, hbel⟩ := hrel
    have HB : Hid (Below W.heap.size W wr) := hbel
    by_cases hlt : k < len
    · obtain ⟨nd, ac, lc, cc, hd, hblk, h0, h1⟩ := (HC.out k hlt).later hbel
      have HD : Hid (ChangesIn wr (.slice ac lc cc)) := hd
      have HK : Hid ((a.add (k * 2)).block < wr.heap.size) := hblk
      clear hbel hblk hd
      have g1 : wr.cell? ⟨(a.add (k * 2)).block, (a.add (k * 2)).off + 1, none⟩ = some (.slice ac lc cc) := h1
      have G1 : Hid (wr.cell? ⟨(a.add (k * 2)).block, (a.add (k * 2)).off + 1, none⟩ = some (.slice ac lc cc)) := h1
      clear h1
      go_wp2_with (first | (go_at_call 53; refine (all_any _ _ HD.out).mono ?_; rintro e w' ⟨hsb, hb⟩; have g2 : w'.cell? ⟨(a.add (k * 2)).block, (a.add (k * 2)).off + 1, none⟩ = some (.slice ac lc cc) := (hb.cell (p := ⟨(a.add (k * 2)).block, (a.add (k * 2)).off + 1, none⟩) HK.out).trans G1.out; have HBB : Hid (Below _ _ w') := hb; clear hb; rcases hsb with rfl | rfl))
      all_goals first
        | (go_ret; exact ⟨someBool _, HB.out.trans (HBB.out.mono HB.out.size)⟩)
        | (go_roundw
           case rel => exact ⟨⟨k + 1, by omega, by go_num⟩, HB.out.trans (HBB.out.mono HB.out.size)⟩
           case measure => simp [intOf]; omega)
        | go_outline
    · clear hbel
      go_wp2
      go_ret
      exact ⟨someBool _, HB.out⟩

theorem few_any (v : Value) (W : World) (h : SharesIn W v) : Calls Tryz.prog 24 #[v] W fun e w' => SomeBool e ∧ Below W.heap.size W w' := by
  rcases h with rfl | ⟨a, len, cap, rfl, hl, hc⟩
  · exact few_nil W
  · exact few_some a len cap W hl hc

theorem shares_open {H : Type} {enc : TypeId × Value → H} {W : World} {base : Nat} {held : Bool} {c : Value}
    (h : Go.AE.LeafOK enc Tryz.prog W base held (.slice 55) c) : SharesIn W c := by
  rcases h with rfl | ⟨a, len, cap, rfl, hl, hi⟩
  · exact .inl rfl
  · refine .inr ⟨a, len, cap, rfl, hl, fun i hlt => ?_⟩
    obtain ⟨cs, n, x, hc, ht⟩ := hi i hlt
    have hcc : Tryz.prog.cellsOf 55 = 2 := by kernel_rfl
    rw [hcc] at hc
    obtain ⟨_, hcl, hat⟩ := World.cells?_some hc
    have hr := Go.AE.leaves_sound enc Tryz.prog W base held 5 55 [.int .i64, .slice 52] (by kernel_rfl) (by kernel_rfl) _ _ _ ht
    obtain ⟨c0, z, rfl, h0, hr⟩ := hr.uncons
    obtain ⟨c1, z, rfl, h1, hr⟩ := hr.uncons
    cases hr.unnil
    have hch := changes_open h1
    obtain ⟨ac, lc, cc, rfl⟩ := Go.AE.slice_form h1
    have a0 := hat 0 (by omega)
    have hblk := cell_block a0
    simp only [add_block] at hblk
    have e0 : (a.add (i * 2)).add 0 = a.add (i * 2) := by simp [Addr.add]
    rw [e0] at a0
    exact ⟨_, ac, lc, cc, hch, by rw [add_block]; exact hblk, a0, hat 1 (by omega)⟩

end Go.Proofs.YthacgilphddekaaGreatDoor
