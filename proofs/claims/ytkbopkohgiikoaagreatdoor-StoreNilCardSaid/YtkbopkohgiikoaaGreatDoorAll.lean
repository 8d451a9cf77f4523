/- Contracts of belfrylaw12.Fits and FitsAll: they answer true or false, and only read. -/
import Derived.Test.YtkbopkohgiikoaaGreatDoorFits
namespace Go.Proofs.YtkbopkohgiikoaaGreatDoor
open Go.RowKit

set_option maxHeartbeats 2000000 in
theorem fit1_any (kd : Value) (k v s : ByteArray) (ver at_ ev : Int) (d : Value) (W : World) (h : StepsIn W d) :
    Calls Tryz.prog 15 #[.agg #[kd, .string k, .string v, .string s, .int .i64 ver, .int .u64 at_, .int .u64 ev, d]] W fun e w' => SomeBool e ∧ Below W.heap.size W w' := by
  have bel : Below W.heap.size W (W.alloc (.cells #[kd, .string k, .string v, .string s, .int .i64 ver, .int .u64 at_, .int .u64 ev, d] 52)) := (Below.refl _ _).alloc (Nat.le_refl _) _
  have H2 : StepsIn (W.alloc (.cells #[kd, .string k, .string v, .string s, .int .i64 ver, .int .u64 at_, .int .u64 ev, d] 52)) d := h.later bel
  have HB : Hid (Below W.heap.size W (W.alloc (.cells #[kd, .string k, .string v, .string s, .int .i64 ver, .int .u64 at_, .int .u64 ev, d] 52))) := bel
  clear bel h
  by_cases hk : (k.size : Int) ≤ 100
  · by_cases hv : (v.size : Int) ≤ 100
    · go_enter Tryz.func15, Tryz.ntmps15
      go_wp2_with (first | (go_at_call 34; refine (fits_any _ _ _ _ _ _ H2).mono ?_; rintro e w' ⟨hsb, hb⟩; rcases hsb with rfl | rfl))
      all_goals
        go_ret
        exact ⟨someBool _, HB.out.trans (hb.mono (by simp))⟩
    · go_enter Tryz.func15, Tryz.ntmps15
      go_wp2
      go_ret
      exact ⟨someBool _, HB.out⟩
  · go_enter Tryz.func15, Tryz.ntmps15
    go_wp2
    go_ret
    exact ⟨someBool _, HB.out⟩

/-- A change that can be read. -/
def ChangeAt (w : World) (a : Addr) : Prop := ∃ (kd : Value) (k v s : ByteArray) (ver at_ ev : Int) (d : Value), StepsIn w d ∧ a.block < w.heap.size ∧
  w.cell? a = some kd ∧ w.cell? (a.add 1) = some (.string k) ∧ w.cell? (a.add 2) = some (.string v) ∧ w.cell? (a.add 3) = some (.string s) ∧
  w.cell? (a.add 4) = some (.int .i64 ver) ∧ w.cell? (a.add 5) = some (.int .u64 at_) ∧ w.cell? (a.add 6) = some (.int .u64 ev) ∧ w.cell? (a.add 7) = some d

theorem ChangeAt.later {W w : World} {a : Addr} (h : ChangeAt W a) (hb : Below W.heap.size W w) : ChangeAt w a := by
  obtain ⟨kd, k, v, s, ver, at_, ev, d, h0, hblk, h1, h2, h3, h4, h5, h6, h7, h8⟩ := h
  have e : ∀ n, w.cell? (a.add n) = W.cell? (a.add n) := fun n => hb.cell (by unfold Addr.add; split <;> exact hblk)
  exact ⟨kd, k, v, s, ver, at_, ev, d, h0.later hb, Nat.lt_of_lt_of_le hblk hb.size, by rw [hb.cell hblk]; exact h1, by rw [e]; exact h2, by rw [e]; exact h3, by rw [e]; exact h4, by rw [e]; exact h5, by rw [e]; exact h6, by rw [e]; exact h7, by rw [e]; exact h8⟩

def ChangesIn (w : World) (v : Value) : Prop :=
  v = .slice none 0 0 ∨ ∃ (a : Addr) (len cap : Nat), v = .slice (some a) len cap ∧ len ≤ maxLen ∧ ∀ i, i < len → ChangeAt w (a.add (i * 8))

set_option maxHeartbeats 1000000 in
theorem all_nil (W : World) : Calls Tryz.prog 4 #[.slice none 0 0] W fun e w' => SomeBool e ∧ Below W.heap.size W w' := by
  go_enter Tryz.func4, Tryz.ntmps4
  go_wp2
  go_loop [3] (fun i => i = .int .i64 0) (fun i => (intOf i).toNat)
  case atStart => exact rfl
  case round =>
    subst hrel
    go_wp2
    go_ret
    exact ⟨someBool _, Below.refl _ _⟩

set_option maxHeartbeats 2000000 in
theorem all_some (a : Addr) (len cap : Nat) (W : World) (hl : len ≤ maxLen) (hc : ∀ i, i < len → ChangeAt W (a.add (i * 8))) :
    Calls Tryz.prog 4 #[.slice (some a) len cap] W fun e w' => SomeBool e ∧ Below W.heap.size W w' := by
  unfold maxLen at hl
  have HC : Hid (∀ i, i < len → ChangeAt W (a.add (i * 8))) := hc
  clear hc
  go_enter Tryz.func4, Tryz.ntmps4
  go_wp2
  go_loopw [3, 4] (fun i _ w => (∃ k : Nat, k ≤ len ∧ i = .int .i64 k) ∧ Below W.heap.size W w) (fun i _ _ => len - (intOf i).toNat)
  case atStart => exact ⟨⟨0, Nat.zero_le _, rfl⟩, Below.refl _ _⟩
  case round =>
    obtain ⟨⟨k, hk, rfl⟩, hbel⟩ := hrel
    have HB : Hid (Below W.heap.size W wr) := hbel
    by_cases hlt : k < len
    · obtain ⟨kd, ky, vl, nm, ver, at_, ev, d, hd, hblk, h0, h1, h2, h3, h4, h5, h6, h7⟩ := (HC.out k hlt).later hbel
      have HD : Hid (StepsIn wr d) := hd
      clear hbel hblk hd
      have g1 : wr.cell? ⟨(a.add (k * 8)).block, (a.add (k * 8)).off + 1, none⟩ = some (.string ky) := h1
      have g2 : wr.cell? ⟨(a.add (k * 8)).block, (a.add (k * 8)).off + 2, none⟩ = some (.string vl) := h2
      have g3 : wr.cell? ⟨(a.add (k * 8)).block, (a.add (k * 8)).off + 3, none⟩ = some (.string nm) := h3
      have g4 : wr.cell? ⟨(a.add (k * 8)).block, (a.add (k * 8)).off + 4, none⟩ = some (.int .i64 ver) := h4
      have g5 : wr.cell? ⟨(a.add (k * 8)).block, (a.add (k * 8)).off + 5, none⟩ = some (.int .u64 at_) := h5
      have g6 : wr.cell? ⟨(a.add (k * 8)).block, (a.add (k * 8)).off + 6, none⟩ = some (.int .u64 ev) := h6
      have g7 : wr.cell? ⟨(a.add (k * 8)).block, (a.add (k * 8)).off + 7, none⟩ = some d := h7
      clear h1 h2 h3 h4 h5 h6 h7
      go_wp2_with (first | (go_at_call 15; refine (fit1_any _ _ _ _ _ _ _ _ _ HD.out).mono ?_; rintro e w' ⟨hsb, hb⟩; rcases hsb with rfl | rfl))
      all_goals first
        | (go_ret; exact ⟨someBool _, HB.out.trans (hb.mono HB.out.size)⟩)
        | (go_roundw
           case rel => exact ⟨⟨k + 1, by omega, by go_num⟩, HB.out.trans (hb.mono HB.out.size)⟩
           case measure => simp [intOf]; omega)
        | go_outline
    · clear hbel
      go_wp2
      go_ret
      exact ⟨someBool _, HB.out⟩

theorem list8 {α : Type} : ∀ {l : List α}, l.length = 8 → ∃ a b c d e f g h, l = [a, b, c, d, e, f, g, h]
  | [a, b, c, d, e, f, g, h], _ => ⟨a, b, c, d, e, f, g, h, rfl⟩

theorem trod_cut {H : Type} {enc : TypeId × Value → H} {W : World} {base : Nat} {held : Bool} {n t : Nat} {cs : List Value} {xs : List (DataW H × List MemPlace)} {i m : Nat} (hl : xs.length = m) (hi : i < m)
    (h : DataW.trod enc Tryz.prog W base (fun _ => true) held n t cs = xs[i]?) : ∃ x, DataW.trod enc Tryz.prog W base (fun _ => true) held n t cs = some x :=
  ⟨_, h.trans (List.getElem?_eq_getElem (by omega))⟩

/-- A change's cells, as its reading has them. -/
theorem change_open {H : Type} {enc : TypeId × Value → H} {W : World} {base : Nat} {held : Bool} {n : Nat} {cs : List Value} {y : DataW H × List MemPlace}
    (h : DataW.trod enc Tryz.prog W base (fun _ => true) held n 52 cs = some y) :
    ∃ (kd : Value) (k v s : ByteArray) (ver at_ ev : Int) (d : Value), cs = [kd, .string k, .string v, .string s, .int .i64 ver, .int .u64 at_, .int .u64 ev, d] ∧ StepsIn W d := by
  obtain ⟨xs, n2, _, _, hcl, hxl, hf⟩ := Go.DataW.trod_struct Tryz.underlying52 h
  have hcc : Tryz.prog.cellsOf 52 = 8 := by kernel_rfl
  rw [hcc] at hcl
  obtain ⟨c0, c1, c2, c3, c4, c5, c6, c7, rfl⟩ := list8 hcl
  have k9 : Tryz.prog.cellsOf 9 = 1 := by kernel_rfl
  have k50 : Tryz.prog.cellsOf 50 = 5 := by kernel_rfl
  have k3 : Tryz.prog.cellsOf 3 = 1 := by kernel_rfl
  have k23 : Tryz.prog.cellsOf 23 = 1 := by kernel_rfl
  have k48 : Tryz.prog.cellsOf 48 = 1 := by kernel_rfl
  have f1 : DataW.trod enc Tryz.prog W base (fun _ => true) held n2 9 (([c0, c1, c2, c3, c4, c5, c6, c7].drop 1).take (Tryz.prog.cellsOf 9)) = xs[1]? := hf 1 _ rfl
  have f2 : DataW.trod enc Tryz.prog W base (fun _ => true) held n2 9 (([c0, c1, c2, c3, c4, c5, c6, c7].drop 2).take (Tryz.prog.cellsOf 9)) = xs[2]? := hf 2 _ rfl
  have f3 : DataW.trod enc Tryz.prog W base (fun _ => true) held n2 50 (([c0, c1, c2, c3, c4, c5, c6, c7].drop 3).take (Tryz.prog.cellsOf 50)) = xs[3]? := hf 3 _ rfl
  rw [k9] at f1 f2
  rw [k50] at f3
  obtain ⟨y1, f1⟩ := trod_cut (m := 4) (by rw [hxl]; rfl) (by omega) f1
  obtain ⟨y2, f2⟩ := trod_cut (m := 4) (by rw [hxl]; rfl) (by omega) f2
  obtain ⟨y3, f3⟩ := trod_cut (m := 4) (by rw [hxl]; rfl) (by omega) f3
  obtain ⟨ky, e1, _⟩ := Go.DataW.trod_string Tryz.underlying9 f1
  obtain ⟨vl, e2, _⟩ := Go.DataW.trod_string Tryz.underlying9 f2
  obtain ⟨zs, n3, _, _, _, hzl, hg⟩ := Go.DataW.trod_struct Tryz.underlying50 f3
  have g0 : DataW.trod enc Tryz.prog W base (fun _ => true) held n3 9 (([c3, c4, c5, c6, c7].drop 0).take (Tryz.prog.cellsOf 9)) = zs[0]? := hg 0 _ rfl
  have g1 : DataW.trod enc Tryz.prog W base (fun _ => true) held n3 3 (([c3, c4, c5, c6, c7].drop 1).take (Tryz.prog.cellsOf 3)) = zs[1]? := hg 1 _ rfl
  have g2 : DataW.trod enc Tryz.prog W base (fun _ => true) held n3 23 (([c3, c4, c5, c6, c7].drop 2).take (Tryz.prog.cellsOf 23)) = zs[2]? := hg 2 _ rfl
  have g3 : DataW.trod enc Tryz.prog W base (fun _ => true) held n3 23 (([c3, c4, c5, c6, c7].drop 3).take (Tryz.prog.cellsOf 23)) = zs[3]? := hg 3 _ rfl
  have g4 : DataW.trod enc Tryz.prog W base (fun _ => true) held n3 48 (([c3, c4, c5, c6, c7].drop 4).take (Tryz.prog.cellsOf 48)) = zs[4]? := hg 4 _ rfl
  rw [k9] at g0
  rw [k3] at g1
  rw [k23] at g2 g3
  rw [k48] at g4
  obtain ⟨z0, g0⟩ := trod_cut (m := 5) (by rw [hzl]; rfl) (by omega) g0
  obtain ⟨z1, g1⟩ := trod_cut (m := 5) (by rw [hzl]; rfl) (by omega) g1
  obtain ⟨z2, g2⟩ := trod_cut (m := 5) (by rw [hzl]; rfl) (by omega) g2
  obtain ⟨z3, g3⟩ := trod_cut (m := 5) (by rw [hzl]; rfl) (by omega) g3
  obtain ⟨z4, g4⟩ := trod_cut (m := 5) (by rw [hzl]; rfl) (by omega) g4
  obtain ⟨nm, e3, _⟩ := Go.DataW.trod_string Tryz.underlying9 g0
  obtain ⟨ver, e4, _⟩ := Go.DataW.trod_int Tryz.underlying3 g1
  obtain ⟨at_, e5, _⟩ := Go.DataW.trod_int Tryz.underlying23 g2
  obtain ⟨ev, e6, _⟩ := Go.DataW.trod_int Tryz.underlying23 g3
  have hst := steps_open g4
  cases e1; cases e2; cases e3; cases e4; cases e5; cases e6
  exact ⟨c0, ky, vl, nm, ver, at_, ev, c7, rfl, hst⟩

theorem changes_open {H : Type} {enc : TypeId × Value → H} {W : World} {base : Nat} {held : Bool} {n : Nat} {c : Value} {y : DataW H × List MemPlace}
    (h : DataW.trod enc Tryz.prog W base (fun _ => true) held n 22 [c] = some y) : ChangesIn W c := by
  rcases Go.Deep.open_slice Tryz.underlying22 h with ⟨h0, _⟩ | ⟨a, len, cap, m, n', D, Pl, h0, hb, hl, hcap, hm, _, hi⟩
  · left; cases h0; rfl
  · right
    cases h0
    simp only [if_true] at hm
    refine ⟨a, len, cap, rfl, by omega, fun i hlt => ?_⟩
    obtain ⟨cs, hc, ht⟩ := hi i (by omega)
    have hcc : Tryz.prog.cellsOf 52 = 8 := by kernel_rfl
    rw [hcc] at hc
    obtain ⟨_, hcl, hat⟩ := World.cells?_some hc
    obtain ⟨kd, k, v, s, ver, at_, ev, d, rfl, hd⟩ := change_open ht
    have a0 := hat 0 (by omega)
    have hblk := cell_block a0
    simp only [add_block] at hblk
    have e0 : (a.add (i * 8)).add 0 = a.add (i * 8) := by simp [Addr.add]
    rw [e0] at a0
    exact ⟨kd, k, v, s, ver, at_, ev, d, hd, by rw [add_block]; exact hblk, a0, hat 1 (by omega), hat 2 (by omega), hat 3 (by omega), hat 4 (by omega), hat 5 (by omega), hat 6 (by omega), hat 7 (by omega)⟩

theorem all_any (v : Value) (W : World) (h : ChangesIn W v) : Calls Tryz.prog 4 #[v] W fun e w' => SomeBool e ∧ Below W.heap.size W w' := by
  rcases h with rfl | ⟨a, len, cap, rfl, hl, hc⟩
  · exact all_nil W
  · exact all_some a len cap W hl hc

theorem ChangesIn.later {W w : World} {v : Value} (h : ChangesIn W v) (hb : Below W.heap.size W w) : ChangesIn w v := by
  rcases h with rfl | ⟨a, len, cap, rfl, hl, hc⟩
  · exact .inl rfl
  · exact .inr ⟨a, len, cap, rfl, hl, fun i hi => (hc i hi).later hb⟩

theorem ChangesIn.raw {W : World} {v : Value} (h : ChangesIn W v) : v = .slice none 0 0 ∨ ∃ a len cap, v = .slice (some a) len cap := by
  rcases h with rfl | ⟨a, len, cap, rfl, _⟩
  · exact .inl rfl
  · exact .inr ⟨a, len, cap, rfl⟩

end Go.Proofs.YtkbopkohgiikoaaGreatDoor
