/- What a law's arguments hold: numbers, pairs of numbers, scripts in a slice, numbers in a slice. -/
import Derived.Test.YtpmpclieclcbdaaP11
import Derived.Test.YtpmpclieclcbdaaRows
import Derived.ProofKit
import Derived.Lib.SmallJoins
import Derived.Deep.Slices
set_option linter.unusedSimpArgs false
set_option linter.unusedVariables false
set_option linter.unusedSectionVars false
namespace Go.Proofs.Ytpmpclieclcbdaa
open Go Go.AE Go.ChangeShapes Go.WideShapes Go.ChangeAt Go.RowKit Go.Joins Go.Deep

theorem Try.own : ownKnob Try.prog.godebug = none := by kernel_rfl
theorem Try.laidOut : laidOutB Try.prog = true := by kernel_rfl

set_option maxRecDepth 100000
theorem wf_u64 {n : Int} (h : (Lit.int .u64 n).wf = true) : ∃ m : Nat, n = (m : Int) ∧ m < 18446744073709551616 := by
  simp only [Lit.wf, Bool.and_eq_true, decide_eq_true_eq] at h
  have h1 : (0 : Int) ≤ n := h.1
  have h2 : n ≤ 18446744073709551615 := h.2
  exact ⟨n.toNat, by omega, by omega⟩
theorem trod_u64 {H : Type} {enc : TypeId × Value → H} {w : World} {base : Nat} {spare : Nat → Bool} {held : Bool} {fuel : Nat} {cs : List Value} {x : DataW H × List MemPlace} (h : DataW.trod enc Try.prog w base spare held fuel 22 cs = some x) : ∃ m : Nat, cs = [.int .u64 (m : Int)] ∧ m < 18446744073709551616 := by
  obtain ⟨n, rfl, _, hw⟩ := DataW.trod_int Try.underlying22 h
  obtain ⟨m, rfl, hm⟩ := wf_u64 hw
  exact ⟨m, rfl, hm⟩

instance : Inhabited ActD := ⟨⟨0, ByteArray.empty, 0, 0⟩⟩
def acell (y : ActD) : List Value := [.int .i64 y.kind, .string y.name, .int .u64 (y.at_ : Int), .int .u64 (y.by_ : Int)]
theorem acells_at : ∀ {acts : List ActD} {i : Nat} {v : Value}, (acells acts)[i]? = some v → ∃ q y r, acts[q]? = some y ∧ r < 4 ∧ i = q * 4 + r ∧ (acell y)[r]? = some v
  | [], i, v, h => by simp [acells] at h
  | y :: l, 0, v, h => ⟨0, y, 0, rfl, by omega, rfl, h⟩
  | y :: l, 1, v, h => ⟨0, y, 1, rfl, by omega, rfl, h⟩
  | y :: l, 2, v, h => ⟨0, y, 2, rfl, by omega, rfl, h⟩
  | y :: l, 3, v, h => ⟨0, y, 3, rfl, by omega, rfl, h⟩
  | y :: l, i + 4, v, h => by
    obtain ⟨q, z, r, h1, h2, h3, h4⟩ := acells_at (acts := l) (i := i) (v := v) h
    exact ⟨q + 1, z, r, by simpa using h1, h2, by omega, h4⟩

section
variable {H : Type} {enc : TypeId × Value → H} {w : World} {base : Nat} {spare : Nat → Bool} {held : Bool}

/-- A script. -/
theorem open_acts {fuel : Nat} {cs : List Value} {x : DataW H × List MemPlace} (h : DataW.trod enc Try.prog w base spare held fuel 37 cs = some x) :
    cs = [.slice none 0 0] ∨ ∃ (a : Addr) (len cap : Nat) (acts : List ActD), cs = [.slice (some a) len cap] ∧ cap ≤ maxLen ∧ acts.length = len ∧ (∀ y ∈ acts, y.at_ < 18446744073709551616 ∧ y.by_ < 18446744073709551616) ∧
      ∀ i y, acts[i]? = some y → ∀ r v, (acell y)[r]? = some v → w.cell? (a.add (i * 4 + r)) = some v := by
  rcases open_slice Try.underlying37 h with ⟨h0, _⟩ | ⟨a, len, cap, m, n, D, Pl, rfl, _, hl, hcap, hm, _, hx⟩
  · exact .inl h0
  right
  have hc : Try.prog.cellsOf 40 = 4 := by kernel_rfl
  rw [hc] at hx
  have hlm : len ≤ m := by rw [hm]; split <;> omega
  have each : ∀ i, i < len → ∃ y : ActD, (y.at_ < 18446744073709551616 ∧ y.by_ < 18446744073709551616) ∧ ∀ r v, (acell y)[r]? = some v → w.cell? (a.add (i * 4 + r)) = some v := by
    intro i hi
    obtain ⟨cs', h1, h2⟩ := hx i (by omega)
    obtain ⟨_, hlen, hcell⟩ := World.cells?_some h1
    match cs', hlen with
    | [c0, c1, c2, c3], _ =>
      obtain ⟨y0, y1, y2, y3, k, _, _, g0, g1, g2, g3⟩ := trod_struct4 Try.underlying40 h2
      have c3' : Try.prog.cellsOf 3 = 1 := by kernel_rfl
      have c9' : Try.prog.cellsOf 9 = 1 := by kernel_rfl
      have c22' : Try.prog.cellsOf 22 = 1 := by kernel_rfl
      simp only [c3', c9', c22', List.drop_succ_cons, List.drop_zero, List.take_succ_cons, List.take_zero] at g0 g1 g2 g3
      obtain ⟨k0, e0, _⟩ := DataW.trod_int Try.underlying3 g0
      obtain ⟨s1, e1, _⟩ := DataW.trod_string Try.underlying9 g1
      obtain ⟨n2, e2, l2⟩ := trod_u64 g2
      obtain ⟨n3, e3, l3⟩ := trod_u64 g3
      cases e0; cases e1; cases e2; cases e3
      refine ⟨⟨k0, s1, n2, n3⟩, ⟨l2, l3⟩, fun r v hr => ?_⟩
      have hr4 : r < 4 := by
        by_cases hlt : r < 4
        · exact hlt
        · rw [List.getElem?_eq_none (by show 4 ≤ r; omega)] at hr
          cases hr
      have := hcell r hr4
      rw [add_add] at this
      rw [this]
      exact hr
  obtain ⟨f, hf⟩ := choose_lt each
  refine ⟨a, len, cap, (List.range len).map f, rfl, hcap, by simp, ?_, ?_⟩
  · intro y hy
    obtain ⟨i, hi, rfl⟩ := List.mem_map.1 hy
    exact (hf i (List.mem_range.1 hi)).1
  · intro i y hy
    rw [List.getElem?_map] at hy
    obtain ⟨j, hj, rfl⟩ := Option.map_eq_some_iff.1 hy
    have hi : i < len := by
      by_cases hlt : i < len
      · exact hlt
      · rw [List.getElem?_eq_none (by simp; omega)] at hj
        cases hj
    have : j = i := by simpa [List.getElem?_range hi] using hj.symm
    subst this
    exact (hf j hi).2

/-- Numbers in a slice. -/
theorem open_u64s {fuel : Nat} {cs : List Value} {x : DataW H × List MemPlace} (h : DataW.trod enc Try.prog w base spare held fuel 23 cs = some x) :
    cs = [.slice none 0 0] ∨ ∃ (a : Addr) (len cap : Nat) (l : List Nat), cs = [.slice (some a) len cap] ∧ cap ≤ maxLen ∧ l.length = len ∧ (∀ y ∈ l, y < 18446744073709551616) ∧
      ∀ (i y : Nat), l[i]? = some y → w.cell? (a.add i) = some (.int .u64 (y : Int)) := by
  rcases open_slice1 Try.underlying23 (by kernel_rfl) h with ⟨h0, _⟩ | ⟨a, len, cap, m, n, V, D, Pl, rfl, _, hl, hcap, hm, _, hx⟩
  · exact .inl h0
  right
  have hlm : len ≤ m := by rw [hm]; split <;> omega
  have each : ∀ i, i < len → ∃ y : Nat, y < 18446744073709551616 ∧ w.cell? (a.add i) = some (.int .u64 (y : Int)) := by
    intro i hi
    obtain ⟨h1, h2⟩ := hx i (by omega)
    obtain ⟨y, e, hy⟩ := trod_u64 h2
    simp only [List.cons.injEq, and_true] at e
    exact ⟨y, hy, by rw [h1, e]⟩
  obtain ⟨f, hf⟩ := choose_lt each
  refine ⟨a, len, cap, (List.range len).map f, rfl, hcap, by simp, ?_, ?_⟩
  · intro y hy
    obtain ⟨i, hi, rfl⟩ := List.mem_map.1 hy
    exact (hf i (List.mem_range.1 hi)).1
  · intro i y hy
    rw [List.getElem?_map] at hy
    obtain ⟨j, hj, rfl⟩ := Option.map_eq_some_iff.1 hy
    have hi : i < len := by
      by_cases hlt : i < len
      · exact hlt
      · rw [List.getElem?_eq_none (by simp; omega)] at hj
        cases hj
    have : j = i := by simpa [List.getElem?_range hi] using hj.symm
    subst this
    exact (hf j hi).2

/-- Two numbers. -/
theorem open_two {v : Value} {d : DataW H} {p : List MemPlace} {base' : Nat} (hv : Value.okWide Try.prog w .any base' 38 v) (h : DataW.Trod enc Try.prog w base spare held 38 v d p) : ∃ b0 b1 : Nat, v = .agg #[.int .u64 (b0 : Int), .int .u64 (b1 : Int)] ∧ b0 < 18446744073709551616 ∧ b1 < 18446744073709551616 := by
  obtain ⟨cs, rfl, hsz, _⟩ : ∃ cs, v = .agg cs ∧ cs.size = Try.prog.cellsOf 38 ∧ Row.okWide Try.prog w .any base' 38 cs := by
    unfold Value.okWide at hv
    rw [Try.underlying38] at hv
    exact hv
  have h2 : Try.prog.cellsOf 38 = 2 := by kernel_rfl
  rw [h2] at hsz
  obtain ⟨l⟩ := cs
  match l, hsz with
  | [c0, c1], _ =>
    obtain ⟨fuel, hf⟩ := h
    have hf : DataW.trod enc Try.prog w base spare held fuel 38 [c0, c1] = some (d, p) := hf
    obtain ⟨xs, m, _, _, _, hxl, hg⟩ := DataW.trod_array Try.underlying38 hf
    have c22 : Try.prog.cellsOf 22 = 1 := by kernel_rfl
    match xs, hxl with
    | [y0, y1], _ =>
      have g0 := hg 0 (by omega)
      have g1 := hg 1 (by omega)
      simp only [c22, Nat.zero_mul, Nat.mul_one, List.drop_succ_cons, List.drop_zero, List.take_succ_cons, List.take_zero] at g0 g1
      obtain ⟨n0, e0, l0⟩ := trod_u64 g0
      obtain ⟨n1, e1, l1⟩ := trod_u64 g1
      cases e0; cases e1
      exact ⟨n0, n1, rfl, l0, l1⟩

/-- A slice that a row hands in lies at a plain place. -/
theorem spot_none {t e : TypeId} {a : Addr} {len cap : Nat} (ht : Try.prog.underlying t = some (.slice e)) (hv : Value.okWide Try.prog w .any base t (.slice (some a) len cap)) : a.spot = none := by
  unfold Value.okWide Cell.okWide Cell.ok at hv
  rw [ht] at hv
  exact hv.2.2.2.1
end

theorem add_plain {b o i : Nat} : (⟨b, o, none⟩ : Addr).add i = ⟨b, o + i, none⟩ := by
  unfold Addr.add
  split
  · rename_i h; subst h; rfl
  · rfl
end Go.Proofs.Ytpmpclieclcbdaa
