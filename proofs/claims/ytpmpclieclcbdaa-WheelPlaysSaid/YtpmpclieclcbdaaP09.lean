/- The document's level is the wheel's. -/
import Derived.Test.YtpmpclieclcbdaaP08
set_option linter.unusedSimpArgs false
set_option linter.unusedVariables false
set_option linter.unusedSectionVars false
namespace Go.Proofs.Ytpmpclieclcbdaa
open Go Go.AE Go.Sort

theorem dig_xor {a b i : Nat} : a / 16 ^ i % 16 = b / 16 ^ i % 16 ↔ (a ^^^ b) / 16 ^ i % 16 = 0 := by
  have e : 16 ^ i = 2 ^ (4 * i) := by rw [show (16 : Nat) = 2 ^ 4 by rfl, ← Nat.pow_mul]
  have e2 : (a ^^^ b) / 2 ^ (4 * i) = (a / 2 ^ (4 * i)) ^^^ (b / 2 ^ (4 * i)) := by
    rw [← Nat.shiftRight_eq_div_pow, ← Nat.shiftRight_eq_div_pow, ← Nat.shiftRight_eq_div_pow]
    exact Nat.shiftRight_xor_distrib
  rw [e, e2]
  have e3 : ∀ u v : Nat, (u ^^^ v) % 16 = (u % 16) ^^^ (v % 16) := fun u v => Nat.xor_mod_two_pow (n := 4)
  rw [e3]
  constructor
  · intro h; rw [h]; exact Nat.xor_self _
  · intro h
    have h2 := congrArg (fun z => (a / 2 ^ (4 * i) % 16) ^^^ z) h
    simp only [← Nat.xor_assoc, Nat.xor_self, Nat.zero_xor, Nat.xor_zero] at h2
    exact h2.symm
theorem top_zero {x k : Nat} (hx : x < 16 ^ 16) (h : ∀ i, k < i → i < 16 → x / 16 ^ i % 16 = 0) : ∀ j, j ≤ 15 → k + 1 + j ≤ 16 → x / 16 ^ (16 - j) = 0
  | 0, _, _ => Nat.div_eq_of_lt hx
  | j + 1, h1, h2 => by
    have ih := top_zero hx h j (by omega) (by omega)
    have hd := h (16 - (j + 1)) (by omega) (by omega)
    have e : x / 16 ^ (16 - (j + 1)) / 16 = x / 16 ^ (16 - j) := by
      rw [Nat.div_div_eq_div_mul, ← Nat.pow_succ, show (16 - (j + 1)).succ = 16 - j by omega]
    omega
theorem lvl_of {a now : Nat} {r : Int} (ha : a < 18446744073709551616) (hn : now < 18446744073709551616) (hne : now < a) (h : LevelN a now 16 r) : r = ((lvl now a : Nat) : Int) := by
  have hx : a ^^^ now < 18446744073709551616 := Nat.xor_lt_two_pow (n := 64) (by omega) (by omega)
  have hx2 : a ^^^ now < 16 ^ 16 := by
    have : (16 : Nat) ^ 16 = 18446744073709551616 := by decide
    omega
  have h0 : a ^^^ now ≠ 0 := by
    intro e
    have h2 := congrArg (fun z => z ^^^ now) e
    simp only [Nat.xor_assoc, Nat.xor_self, Nat.zero_xor, Nat.xor_zero] at h2
    omega
  rcases h with ⟨rfl, hall⟩ | ⟨k, rfl, hk, hd, hup⟩
  · exfalso
    have h1 := top_zero hx2 (k := 0) (fun i h1 h2 => dig_xor.1 (hall i h2)) 15 (by omega) (by omega)
    have h2 := dig_xor.1 (hall 0 (by omega))
    simp at h1 h2
    omega
  · have hd' : (a ^^^ now) / 16 ^ k % 16 ≠ 0 := fun e => hd (dig_xor.2 e)
    have hge : 16 ^ k ≤ a ^^^ now := by
      rcases Nat.lt_or_ge (a ^^^ now) (16 ^ k) with hlt | hge
      · rw [Nat.div_eq_of_lt hlt] at hd'
        exact absurd rfl hd'
      · exact hge
    have hlt : a ^^^ now < 16 ^ (k + 1) := by
      have := top_zero hx2 (k := k) (fun i h1 h2 => dig_xor.1 (hup i h1 h2)) (15 - k) (by omega) (by omega)
      rw [show 16 - (15 - k) = k + 1 by omega] at this
      have hp : 0 < 16 ^ (k + 1) := Nat.pow_pos (by omega)
      exact (Nat.div_eq_zero_iff_lt hp).1 this
    have e1 : (16 : Nat) ^ k = 2 ^ (4 * k) := by rw [show (16 : Nat) = 2 ^ 4 by rfl, ← Nat.pow_mul]
    have e2 : (16 : Nat) ^ (k + 1) = 2 ^ (4 * k + 4) := by rw [show (16 : Nat) = 2 ^ 4 by rfl, ← Nat.pow_mul, Nat.mul_add]
    rw [e1] at hge
    rw [e2] at hlt
    obtain ⟨b1, b2, b3⟩ := bl_bounds hx h0
    have c1 : 4 * k < Lib.bitLen (a ^^^ now) := (Nat.pow_lt_pow_iff_right (a := 2) (by omega)).1 (by omega)
    have c2 : Lib.bitLen (a ^^^ now) - 1 < 4 * k + 4 := (Nat.pow_lt_pow_iff_right (a := 2) (by omega)).1 (by omega)
    unfold lvl
    congr 1
    omega
theorem plc_slot {a now L j : Nat} (hL : L < 4) (hj : j < 16) : plc now a = 16 * L + j ↔ lvl now a = L ∧ a / 16 ^ L % 16 = j := by
  have e : (16 : Nat) ^ L = 2 ^ (4 * L) := by rw [show (16 : Nat) = 2 ^ 4 by rfl, ← Nat.pow_mul]
  rw [e]
  unfold plc
  have hm : ∀ q : Nat, q % 16 < 16 := fun q => Nat.mod_lt _ (by omega)
  by_cases h : 4 ≤ lvl now a
  · rw [if_pos h]
    constructor
    · intro e; omega
    · rintro ⟨h1, _⟩; omega
  · rw [if_neg h]
    have := hm (a / 2 ^ (4 * lvl now a))
    constructor
    · intro e
      have hl : lvl now a = L := by omega
      rw [hl] at e this ⊢
      exact ⟨rfl, by omega⟩
    · rintro ⟨h1, h2⟩
      rw [h1]
      omega
theorem plc_farl {a now : Nat} : plc now a = 64 ↔ 3 < lvl now a := by
  unfold plc
  by_cases h : 4 ≤ lvl now a
  · rw [if_pos h]; omega
  · rw [if_neg h]
    have := Nat.mod_lt (a / 2 ^ (4 * lvl now a)) (show 16 > 0 by omega)
    omega
end Go.Proofs.Ytpmpclieclcbdaa

/- The document's wheel: Drop, Advance. -/
namespace Go.Proofs.Ytpmpclieclcbdaa
open Go Go.AE Go.Sort

variable {Z : Go.AE.Road}
set_option maxRecDepth 10000
set_option maxHeartbeats 4000000

theorem doc_drop {A : ASt} {m now : Nat} {v : Value} {L : List (ByteArray × Nat)} {M : TM} {k : ByteArray} (h : DocAt A m now v L) (hL : Lists M L) (hl : L.length ≤ 900) :
    CallW Z Try.prog 19 [.pointer (some ⟨m, 0, none⟩), .string k] A (fun r A' => r = .bool (M k).isSome ∧ ∃ v' L', DocAt A' m now v' L' ∧ Lists (M.del k) L' ∧ L'.length ≤ L.length ∧ (∀ b, Blk v' b → Blk v b ∨ A.next ≤ b) ∧ Fr [m] A A') := by
  refine CallW.of_code E0_ok E0_ro fn19 rfl (n := 23) rfl (rs := [.tmp 4]) rfl (by simp) (codeW_ok E0_ok E0_ro ?_)
  have hr := h.row
  simp only [oneW_next, s_0, s_1, s_2, s_3, s_4, Hands, handsV, resultsV, oneOrTuple, argsT, ev, evs, evPairs, evOpt, closed, flat, nth, aCall, aEnter, notYield, aNilCheck, aLoad, partV, isAggD, aFieldAddr, aField, aExtract, Option.isNone, aBuiltin, cond_true, cond_false, cond_dec, if_true, if_false, List.length_cons, List.length_nil, forall_const, implies_true, List.append_nil, List.cons_append, List.nil_append, eq_self, Nat.reduceEqDiff, Nat.reduceAdd, Nat.reduceMul, Nat.reduceSub, Nat.reduceLT, Nat.reduceLeDiff, Nat.reduceBEq, reduceIte, reduceCtorEq, ti63, t63_desc, t63_size, ti25, t25_desc, ti22, t22_desc, t22_size, ti59, t59_desc, t59_size, ti60, t60_desc, t60_size, ti61, t61_desc, t61_size, ti3, t3_desc, t3_size, ti40, t40_desc, t40_size, ti33, t33_desc, t33_size, ti9, t9_desc, t9_size, wrow_now, wrow_all, eqnil25, fn17, fn26, fn27, fn28, fn29, fn38, fn39, fn12, fn14, fn15, ti44, t44_desc, ti47, t47_desc, t47_size, ti45, t45_desc, t45_size, ti53, t53_desc, t53_size, hr]
  refine CallT.mono (find_spec h.rd.reads (by omega)) ?_
  rintro _ B ⟨rfl, n, rfl, hn⟩
  have hb : decide (n ≥ 0) = (M k).isSome := by
    have := hn.trans hL.has
    cases hM : (M k).isSome with
    | true => exact decide_eq_true (this.2 hM)
    | false => exact decide_eq_false fun h => by rw [this.1 h] at hM; cases hM
  simp only [oneW_next, s_0, s_1, s_2, s_3, s_4, Hands, handsV, resultsV, oneOrTuple, argsT, ev, evs, evPairs, evOpt, closed, flat, nth, aCall, aEnter, notYield, aNilCheck, aLoad, partV, isAggD, aFieldAddr, aField, aExtract, Option.isNone, aBuiltin, cond_true, cond_false, cond_dec, if_true, if_false, List.length_cons, List.length_nil, forall_const, implies_true, List.append_nil, List.cons_append, List.nil_append, eq_self, Nat.reduceEqDiff, Nat.reduceAdd, Nat.reduceMul, Nat.reduceSub, Nat.reduceLT, Nat.reduceLeDiff, Nat.reduceBEq, reduceIte, reduceCtorEq, ti63, t63_desc, t63_size, ti25, t25_desc, ti22, t22_desc, t22_size, ti59, t59_desc, t59_size, ti60, t60_desc, t60_size, ti61, t61_desc, t61_size, ti3, t3_desc, t3_size, ti40, t40_desc, t40_size, ti33, t33_desc, t33_size, ti9, t9_desc, t9_size, wrow_now, wrow_all, eqnil25, fn17, fn26, fn27, fn28, fn29, fn38, fn39, fn12, fn14, fn15, ti44, t44_desc, ti47, t47_desc, t47_size, ti45, t45_desc, t45_size, ti53, t53_desc, t53_size, hr, hb]
  refine CallT.mono (drop_ref h.rd.reads (by omega)) ?_
  rintro r C ⟨l2, hs, hf, hle2, hsub, hm⟩
  obtain ⟨ht, hlo⟩ := hs.tail
  have hrB := (hf.get m h.lt (by simp)).trans hr
  simp only [oneW_next, s_0, s_1, s_2, s_3, s_4, Hands, handsV, resultsV, oneOrTuple, argsT, ev, evs, evPairs, evOpt, closed, flat, nth, aCall, aEnter, notYield, aNilCheck, aLoad, partV, isAggD, aFieldAddr, aField, aExtract, Option.isNone, aBuiltin, cond_true, cond_false, cond_dec, if_true, if_false, List.length_cons, List.length_nil, forall_const, implies_true, List.append_nil, List.cons_append, List.nil_append, eq_self, Nat.reduceEqDiff, Nat.reduceAdd, Nat.reduceMul, Nat.reduceSub, Nat.reduceLT, Nat.reduceLeDiff, Nat.reduceBEq, reduceIte, reduceCtorEq, ti63, t63_desc, t63_size, ti25, t25_desc, ti22, t22_desc, t22_size, ti59, t59_desc, t59_size, ti60, t60_desc, t60_size, ti61, t61_desc, t61_size, ti3, t3_desc, t3_size, ti40, t40_desc, t40_size, ti33, t33_desc, t33_size, ti9, t9_desc, t9_size, wrow_now, wrow_all, eqnil25, fn17, fn26, fn27, fn28, fn29, fn38, fn39, fn12, fn14, fn15, ti44, t44_desc, ti47, t47_desc, t47_size, ti45, t45_desc, t45_size, store47 hrB ht.cells1]
  have hfm : Fr [m] C (C.set m (.row [.int .u64 (now : Int), r] 2 false)) := ⟨by rw [ASt.next_set]; omega, fun b hb hnn => by rw [ASt.get_set, if_neg (by simpa using hnn)]⟩
  have hne : ∀ b, Blk r b → b ≠ m := fun b hb e => by have := hlo b hb; have := h.lt; omega
  refine ⟨r, l2, ⟨by rw [ASt.get_set, if_pos rfl], by rw [ASt.next_set]; exact Nat.lt_of_lt_of_le h.lt hf.next, ht.fr hfm (fun b hb => by simpa using hne b hb), fun hb => hne m hb rfl⟩, hL.del (hL.ord.sublist hsub) hm, hle2, fun b hb => .inr (hlo b hb), (hf.sub (by simp)).trans hfm⟩

theorem Lists.cut {M : TM} {l : List (ByteArray × Nat)} {n nw : Nat} (h : Lists M l) (hn : n ≤ l.length) (h1 : ∀ (i : Nat) (t : ByteArray × Nat), i < n → l[i]? = some t → t.2 ≤ nw) (h2 : ∀ t : ByteArray × Nat, l[n]? = some t → nw < t.2) :
    Lists (fun k => (M k).filter fun a => decide (a ≤ nw)) (l.take n) ∧ Lists (fun k => (M k).filter fun a => decide (nw < a)) (l.drop n) := by
  have hlo : ∀ t ∈ l.take n, t.2 ≤ nw := by
    intro t ht
    obtain ⟨i, hi⟩ := List.getElem?_of_mem ht
    have hil := lt_of_get hi
    rw [List.length_take] at hil
    rw [List.getElem?_take_of_lt (by omega)] at hi
    exact h1 i t (by omega) hi
  have hhi : ∀ t ∈ l.drop n, nw < t.2 := by
    intro t ht
    obtain ⟨i, hi⟩ := List.getElem?_of_mem ht
    rw [List.getElem?_drop] at hi
    have hil := lt_of_get hi
    have hfst : l[n]? = some l[n] := List.getElem?_eq_getElem _
    have h3 := h2 _ hfst
    cases i with
    | zero =>
      rw [Nat.add_zero, hfst] at hi
      rw [← Option.some.inj hi]; exact h3
    | succ i =>
      have h4 := List.pairwise_iff_getElem.1 h.ord n (n + (i + 1)) (by omega) hil (by omega)
      rw [List.getElem?_eq_getElem hil] at hi
      have hi := Option.some.inj hi
      rw [hi] at h4
      rcases h4 with h4 | h4 <;> omega
  have hmem : ∀ t, t ∈ l ↔ t ∈ l.take n ∨ t ∈ l.drop n := fun t => by
    conv => lhs; rw [← List.take_append_drop n l]
    exact List.mem_append
  refine ⟨⟨fun k a => ?_, h.ord.sublist (List.take_sublist _ _)⟩, ⟨fun k a => ?_, h.ord.sublist (List.drop_sublist _ _)⟩⟩
  · constructor
    · intro ht
      have := (h.mem k a).1 ((hmem _).2 (.inl ht))
      simp [this, Option.filter, hlo _ ht]
    · intro hf
      obtain ⟨h3, h4⟩ := Option.filter_eq_some_iff.1 hf
      have h4 := of_decide_eq_true h4
      rcases (hmem _).1 ((h.mem k a).2 h3) with h5 | h5
      · exact h5
      · have := hhi _ h5; simp only at this; omega
  · constructor
    · intro ht
      have := (h.mem k a).1 ((hmem _).2 (.inr ht))
      simp [this, Option.filter, hhi _ ht]
    · intro hf
      obtain ⟨h3, h4⟩ := Option.filter_eq_some_iff.1 hf
      have h4 := of_decide_eq_true h4
      rcases (hmem _).1 ((h.mem k a).2 h3) with h5 | h5
      · have := hlo _ h5; simp only at this; omega
      · exact h5

theorem doc_adv {A : ASt} {m now nw : Nat} {v : Value} {L : List (ByteArray × Nat)} {M : TM} (h : DocAt A m now v L) (hL : Lists M L) (hl : L.length ≤ 900) :
    CallW Z Try.prog 21 [.pointer (some ⟨m, 0, none⟩), .int .u64 (nw : Int)] A (fun r A' => if nw < now then r = .slice none 0 0 ∧ A' = A else ∃ L1 v' L', Reads A' r L1 ∧ Lists (fun k => (M k).filter fun a => decide (a ≤ nw)) L1 ∧ DocAt A' m nw v' L' ∧ Lists (fun k => (M k).filter fun a => decide (nw < a)) L' ∧ L'.length ≤ L.length ∧ L1.length ≤ L.length ∧ (∀ b, Blk v' b → Blk v b) ∧ (∀ b, Blk r b → Blk v b) ∧ Fr [m] A A') := by
  refine CallW.of_code E0_ok E0_ro fn21 rfl (n := 39) rfl (rs := [.tmp 4]) rfl (by simp) (codeW_ok E0_ok E0_ro ?_)
  have hr := h.row
  simp only [oneW_next, s_0, s_1, s_2, s_3, s_4, Hands, handsV, resultsV, oneOrTuple, argsT, ev, evs, evPairs, evOpt, closed, flat, nth, aCall, aEnter, notYield, aNilCheck, aLoad, partV, isAggD, aFieldAddr, aField, aExtract, Option.isNone, aBuiltin, cond_true, cond_false, cond_dec, if_true, if_false, List.length_cons, List.length_nil, forall_const, implies_true, List.append_nil, List.cons_append, List.nil_append, eq_self, Nat.reduceEqDiff, Nat.reduceAdd, Nat.reduceMul, Nat.reduceSub, Nat.reduceLT, Nat.reduceLeDiff, Nat.reduceBEq, reduceIte, reduceCtorEq, ti63, t63_desc, t63_size, ti25, t25_desc, ti22, t22_desc, t22_size, ti59, t59_desc, t59_size, ti60, t60_desc, t60_size, ti61, t61_desc, t61_size, ti3, t3_desc, t3_size, ti40, t40_desc, t40_size, ti33, t33_desc, t33_size, ti9, t9_desc, t9_size, wrow_now, wrow_all, eqnil25, fn17, fn26, fn27, fn28, fn29, fn38, fn39, fn12, fn14, fn15, ti44, t44_desc, ti47, t47_desc, t47_size, ti45, t45_desc, t45_size, ti53, t53_desc, t53_size, hr]
  refine brW_dec (fun hlt => ?_) (fun hlt => ?_)
  · have hn : nw < now := by omega
    simp only [oneW_next, s_0, s_1, s_2, s_3, s_4, Hands, handsV, resultsV, oneOrTuple, argsT, ev, evs, evPairs, evOpt, closed, flat, nth, aCall, aEnter, notYield, aNilCheck, aLoad, partV, isAggD, aFieldAddr, aField, aExtract, Option.isNone, aBuiltin, cond_true, cond_false, cond_dec, if_true, if_false, List.length_cons, List.length_nil, forall_const, implies_true, List.append_nil, List.cons_append, List.nil_append, eq_self, Nat.reduceEqDiff, Nat.reduceAdd, Nat.reduceMul, Nat.reduceSub, Nat.reduceLT, Nat.reduceLeDiff, Nat.reduceBEq, reduceIte, reduceCtorEq, ti63, t63_desc, t63_size, ti25, t25_desc, ti22, t22_desc, t22_size, ti59, t59_desc, t59_size, ti60, t60_desc, t60_size, ti61, t61_desc, t61_size, ti3, t3_desc, t3_size, ti40, t40_desc, t40_size, ti33, t33_desc, t33_size, ti9, t9_desc, t9_size, wrow_now, wrow_all, eqnil25, fn17, fn26, fn27, fn28, fn29, fn38, fn39, fn12, fn14, fn15, hn]
  · have hn : ¬ nw < now := by omega
    simp only [oneW_next, s_0, s_1, s_2, s_3, s_4, Hands, handsV, resultsV, oneOrTuple, argsT, ev, evs, evPairs, evOpt, closed, flat, nth, aCall, aEnter, notYield, aNilCheck, aLoad, partV, isAggD, aFieldAddr, aField, aExtract, Option.isNone, aBuiltin, cond_true, cond_false, cond_dec, if_true, if_false, List.length_cons, List.length_nil, forall_const, implies_true, List.append_nil, List.cons_append, List.nil_append, eq_self, Nat.reduceEqDiff, Nat.reduceAdd, Nat.reduceMul, Nat.reduceSub, Nat.reduceLT, Nat.reduceLeDiff, Nat.reduceBEq, reduceIte, reduceCtorEq, ti63, t63_desc, t63_size, ti25, t25_desc, ti22, t22_desc, t22_size, ti59, t59_desc, t59_size, ti60, t60_desc, t60_size, ti61, t61_desc, t61_size, ti3, t3_desc, t3_size, ti40, t40_desc, t40_size, ti33, t33_desc, t33_size, ti9, t9_desc, t9_size, wrow_now, wrow_all, eqnil25, fn17, fn26, fn27, fn28, fn29, fn38, fn39, fn12, fn14, fn15, ti44, t44_desc, ti47, t47_desc, t47_size, ti45, t45_desc, t45_size, ti53, t53_desc, t53_size, hr]
    refine CallT.mono (due_ref h.rd.reads (by omega)) ?_
    rintro _ B ⟨rfl, n, rfl, hn1, hn2, hn3⟩
    obtain ⟨v1, v2, a1, a2, hr1, ht2, hb1, hb2⟩ := h.rd.cut hn1
    obtain ⟨hl1, hl2⟩ := hL.cut hn1 hn2 hn3
    have s1 := store47 hr ht2.cells1
    have s2 := store47n (A := B.set m (.row [.int .u64 (now : Int), v2] 2 false)) (m := m) (x := .int .u64 (now : Int)) (y := v2) (n := (nw : Int)) (tl := false) (by rw [ASt.get_set, if_pos rfl])
    simp only [oneW_next, s_0, s_1, s_2, s_3, s_4, Hands, handsV, resultsV, oneOrTuple, argsT, ev, evs, evPairs, evOpt, closed, flat, nth, aCall, aEnter, notYield, aNilCheck, aLoad, partV, isAggD, aFieldAddr, aField, aExtract, Option.isNone, aBuiltin, cond_true, cond_false, cond_dec, if_true, if_false, List.length_cons, List.length_nil, forall_const, implies_true, List.append_nil, List.cons_append, List.nil_append, eq_self, Nat.reduceEqDiff, Nat.reduceAdd, Nat.reduceMul, Nat.reduceSub, Nat.reduceLT, Nat.reduceLeDiff, Nat.reduceBEq, reduceIte, reduceCtorEq, ti63, t63_desc, t63_size, ti25, t25_desc, ti22, t22_desc, t22_size, ti59, t59_desc, t59_size, ti60, t60_desc, t60_size, ti61, t61_desc, t61_size, ti3, t3_desc, t3_size, ti40, t40_desc, t40_size, ti33, t33_desc, t33_size, ti9, t9_desc, t9_size, wrow_now, wrow_all, eqnil25, fn17, fn26, fn27, fn28, fn29, fn38, fn39, fn12, fn14, fn15, ti44, t44_desc, ti47, t47_desc, t47_size, ti45, t45_desc, t45_size, ti53, t53_desc, t53_size, hr, a1, a2, s1, s2, hn]
    have hfm : Fr [m] B ((B.set m (.row [.int .u64 (now : Int), v2] 2 false)).set m (.row [.int .u64 (nw : Int), v2] 2 false)) := ⟨by rw [ASt.next_set, ASt.next_set]; omega, fun b hb hnn => by rw [ASt.get_set, if_neg (by simpa using hnn), ASt.get_set, if_neg (by simpa using hnn)]⟩
    have hbm : ∀ b, Blk v b → b ∉ [m] := fun b hb => by
      simp only [List.mem_singleton]
      rintro rfl
      exact h.off hb
    refine ⟨L.take n, v2, L.drop n, hr1.fr hfm (fun b o n c e => hbm b (hb1 b ⟨_, _, _, e⟩)), hl1, ⟨by rw [ASt.get_set, if_pos rfl], by rw [ASt.next_set, ASt.next_set]; exact h.lt, ht2.fr hfm (fun b hb => hbm b (hb2 b hb)), fun hb => h.off (hb2 m hb)⟩, hl2, by rw [List.length_drop]; omega, by rw [List.length_take]; omega, hb2, hb1, hfm⟩
end Go.Proofs.Ytpmpclieclcbdaa

/- The document's wheel: Slot. -/
namespace Go.Proofs.Ytpmpclieclcbdaa
open Go Go.AE Go.Sort

variable {Z : Go.AE.Road}
set_option maxRecDepth 10000
set_option maxHeartbeats 4000000

/-- A slot that is asked for, and its place. -/
def Place (lv sl p : Nat) : Prop := (lv < 4 ∧ sl < 16 ∧ p = 16 * lv + sl) ∨ (lv = 4 ∧ sl = 0 ∧ p = 64)
def RL : Tgt → List Value → ASt → (Value → ASt → Prop) → Prop := fun t args A S => ∃ a b : Nat, a < 18446744073709551616 ∧ b < 18446744073709551616 ∧ t = .fn 43 ∧ args = [.int .u64 (a : Int), .int .u64 (b : Int)] ∧ S = fun r A' => A' = A ∧ ∃ n, r = .int .i64 n ∧ LevelN a b 16 n
theorem RL_ok (t args A S) (h : RL t args A S) : CallT Z Try.prog t args A S := by
  obtain ⟨a, b, ha, hb, rfl, rfl, rfl⟩ := h
  exact level_spec ha hb
theorem con43 {A : ASt} {a b : Nat} (ha : a < 18446744073709551616) (hb : b < 18446744073709551616) {K : Value → ASt → Prop} (h : ∀ n, LevelN a b 16 n → K (.int .i64 n) A) : conC RL (.fn 43) [.int .u64 (a : Int), .int .u64 (b : Int)] A K := by
  refine ⟨⟨_, a, b, ha, hb, rfl, rfl, rfl⟩, ?_⟩
  rintro S ⟨a', b', _, _, _, hargs, rfl⟩ r A' ⟨rfl, n, rfl, hn⟩
  simp only [List.cons.injEq, Value.int.injEq, Int.natCast_inj, true_and, and_true] at hargs
  obtain ⟨rfl, rfl⟩ := hargs
  exact h n hn

theorem doc_slot {A : ASt} {m now lv sl p : Nat} {v : Value} {L : List (ByteArray × Nat)} {M : TM} (h : DocAt A m now v L) (hL : Lists M L) (hl : L.length ≤ 900) (hn : now < 18446744073709551616) (hlt : ∀ k a, M k = some a → a < 18446744073709551616) (hgt : ∀ k a, M k = some a → now < a) (hp : Place lv sl p) :
    CallW Z Try.prog 37 [.pointer (some ⟨m, 0, none⟩), .int .i64 (lv : Int), .int .i64 (sl : Int)] A (fun r A' => ∃ Ls, SliceAt A' A.next r Ls ∧ Lists (M.at_ now p) Ls ∧ Ls.length ≤ L.length ∧ Fr [] A A') := by
  refine CallW.of_code E0_ok E0_ro fn37 rfl (n := 76) rfl (rs := [.tmp 6]) rfl (by simp) (codeW_ok E0_ok E0_ro ?_)
  have hr := h.row
  have hlen : ∀ B, aLen E0 45 v B = some (.int .i64 (L.length : Int)) := fun B => h.rd.reads.len
  simp only [oneW_next, s_0, s_1, s_2, s_3, s_4, Hands, handsV, resultsV, oneOrTuple, argsT, ev, evs, evPairs, evOpt, closed, flat, nth, aCall, aEnter, notYield, aNilCheck, aLoad, partV, isAggD, aFieldAddr, aField, aExtract, Option.isNone, aBuiltin, cond_true, cond_false, cond_dec, if_true, if_false, List.length_cons, List.length_nil, forall_const, implies_true, List.append_nil, List.cons_append, List.nil_append, eq_self, Nat.reduceEqDiff, Nat.reduceAdd, Nat.reduceMul, Nat.reduceSub, Nat.reduceLT, Nat.reduceLeDiff, Nat.reduceBEq, reduceIte, reduceCtorEq, ti63, t63_desc, t63_size, ti25, t25_desc, ti22, t22_desc, t22_size, ti59, t59_desc, t59_size, ti60, t60_desc, t60_size, ti61, t61_desc, t61_size, ti3, t3_desc, t3_size, ti40, t40_desc, t40_size, ti33, t33_desc, t33_size, ti9, t9_desc, t9_size, wrow_now, wrow_all, eqnil25, fn17, fn26, fn27, fn28, fn29, fn38, fn39, fn12, fn14, fn15]
  refine CodeW.mono (Q := fun o => ∃ T' A' r, o = .fr ⟨.exit 0, T', A'⟩ ∧ tget T' 7 = r ∧ SliceAt A' A.next r (L.filter fun t => decide (plc now t.2 = p)) ∧ Fr [] A A') ?_ ?_
  · refine CodeW.loopR (k := L.length) (fun n T A' => ∃ i r, n = L.length - i ∧ i ≤ L.length ∧ tget T 8 = .int .i64 ((i : Nat) : Int) ∧ tget T 0 = .pointer (some ⟨m, 0, none⟩) ∧ tget T 1 = .int .i64 (lv : Int) ∧ tget T 2 = .int .i64 (sl : Int) ∧ tget T 7 = r ∧ SliceAt A' A.next r ((L.take i).filter fun t => decide (plc now t.2 = p)) ∧ Fr [] A A') ?_ ⟨0, .slice none 0 0, rfl, by omega, ?_, ?_, ?_, ?_, ?_, .inl ⟨by simp, rfl⟩, .refl _ _⟩
    · rintro n T A1 ⟨i, r, rfl, hi, u8, u0, u1, u2, u7, hs, hf⟩
      refine codeW_ok E0_ok E0_ro ?_
      have hr1 := (hf.get m h.lt (by simp)).trans hr
      by_cases e1 : i < L.length
      · have d1 : ((i : Int) < (L.length : Int)) = True := eq_true (by omega)
        have hx : L[i]? = some L[i] := List.getElem?_eq_getElem _
        have htm : L[i] ∈ L := List.getElem_mem _
        generalize L[i] = t at hx htm
        have hMt := (hL.mem t.1 t.2).1 htm
        have hta := hlt _ _ hMt
        have htn := hgt _ _ hMt
        obtain ⟨b, q, c, sz, tl, hix, hb, hbn, gn, ga⟩ := (h.rd.reads.fr hf (by simp)).ix hx
        have hcp := cutP gn ga
        have vv : valEq v v = true := h.rd.reads.ve
        have htk : (L.take (i + 1)).filter (fun t => decide (plc now t.2 = p)) = (L.take i).filter (fun t => decide (plc now t.2 = p)) ++ (if plc now t.2 = p then [t] else []) := by
          rw [List.take_add_one, hx, List.filter_append]
          by_cases hpp : plc now t.2 = p <;> simp [hpp]
        simp only [oneW_next, s_0, s_1, s_2, s_3, s_4, Hands, handsV, resultsV, oneOrTuple, argsT, ev, evs, evPairs, evOpt, closed, flat, nth, aCall, aEnter, notYield, aNilCheck, aLoad, partV, isAggD, aFieldAddr, aField, aExtract, Option.isNone, aBuiltin, cond_true, cond_false, cond_dec, if_true, if_false, List.length_cons, List.length_nil, forall_const, implies_true, List.append_nil, List.cons_append, List.nil_append, eq_self, Nat.reduceEqDiff, Nat.reduceAdd, Nat.reduceMul, Nat.reduceSub, Nat.reduceLT, Nat.reduceLeDiff, Nat.reduceBEq, reduceIte, reduceCtorEq, ti63, t63_desc, t63_size, ti25, t25_desc, ti22, t22_desc, t22_size, ti59, t59_desc, t59_size, ti60, t60_desc, t60_size, ti61, t61_desc, t61_size, ti3, t3_desc, t3_size, ti40, t40_desc, t40_size, ti33, t33_desc, t33_size, ti9, t9_desc, t9_size, wrow_now, wrow_all, eqnil25, fn17, fn26, fn27, fn28, fn29, fn38, fn39, fn12, fn14, fn15, u8, u0, ti44, t44_desc, ti47, t47_desc, t47_size, ti45, t45_desc, t45_size, ti53, t53_desc, t53_size, hr1, hlen, d1]
        refine CodeW.seqf E0_ok E0_ro mixed RL_ok [0, 1, 2, 3, 4, 5, 6, 7, 8, 9, 10, 11, 12, 13] [] (fanOf _ _ _) (by simp only [reorder, reoGo, strip, List.map_cons, List.map_nil, opAt, remap, nth, Option.map, σ, place', nbeq, List.length_cons, List.length_nil, Nat.reduceAdd, Nat.reduceLT, Nat.reduceEqDiff, if_true, if_false, reduceIte]; rfl) (by decide +kernel) (by kernel_rfl) (by kernel_rfl) (by kernel_rfl) rfl ?_
        simp only [oneW_next, s_0, s_1, s_2, s_3, s_4, Hands, handsV, resultsV, oneOrTuple, argsT, ev, evs, evPairs, evOpt, closed, flat, nth, aCall, aEnter, notYield, aNilCheck, aLoad, partV, isAggD, aFieldAddr, aField, aExtract, Option.isNone, aBuiltin, cond_true, cond_false, cond_dec, if_true, if_false, List.length_cons, List.length_nil, forall_const, implies_true, List.append_nil, List.cons_append, List.nil_append, eq_self, Nat.reduceEqDiff, Nat.reduceAdd, Nat.reduceMul, Nat.reduceSub, Nat.reduceLT, Nat.reduceLeDiff, Nat.reduceBEq, reduceIte, reduceCtorEq, ti63, t63_desc, t63_size, ti25, t25_desc, ti22, t22_desc, t22_size, ti59, t59_desc, t59_size, ti60, t60_desc, t60_size, ti61, t61_desc, t61_size, ti3, t3_desc, t3_size, ti40, t40_desc, t40_size, ti33, t33_desc, t33_size, ti9, t9_desc, t9_size, wrow_now, wrow_all, eqnil25, fn17, fn26, fn27, fn28, fn29, fn38, fn39, fn12, fn14, fn15, q_0, q_1, q_2, f_0, pendW, hasN, reorder, E0_ron, exists_eq', List.length_cons, List.length_nil, u8, u0, ti44, t44_desc, ti47, t47_desc, t47_size, ti45, t45_desc, t45_size, ti53, t53_desc, t53_size, hr1, hix, hb, ga, vv]
        refine con43 hta hn ?_
        intro k hk
        have hk := lvl_of hta hn htn hk
        subst hk
        have hll : lvl now t.2 ≤ 16 := by
          unfold lvl
          have hx64 : t.2 ^^^ now < 18446744073709551616 := Nat.xor_lt_two_pow (n := 64) (by omega) (by omega)
          have hb64 : Lib.bitLen (t.2 ^^^ now) ≤ 64 := Lib.bitLen_le _ _ (by omega) hx64
          omega
        have hbump : Fr [] A1 { heap := A1.heap, next := A1.next + 14 } := ⟨by show A1.next ≤ A1.next + 14; omega, fun b _ _ => get_next⟩
        have hfn := hf.next
        have hN : Fr [] A1 (ASt.new { heap := A1.heap, next := A1.next + 14 } (.row [.string t.1, .int .u64 (t.2 : Int)] 2 false)) := hbump.trans ⟨by rw [ASt.next_new]; omega, fun b hb _ => by rw [ASt.get_new, if_neg (by omega)]⟩
        obtain ⟨r', A2, happ, hs2, hn2, hg2⟩ := (hs.fr hN (by simp)).app45 (x := A1.next + 14) (t := t) (tl := false) (by rw [ASt.get_new, if_pos rfl]) (by have := List.length_filter_le (fun t => decide (plc now t.2 = p)) (L.take i); rw [List.length_take] at this; omega) (by rw [ASt.next_new]; show A.next ≤ A1.next + 14 + 1; omega)
        rw [ASt.next_new] at hn2
        have hn2 : A1.next + 14 + 1 ≤ A2.next := hn2
        have ge : ((lv : Int) ≥ 0) = True := eq_true (by omega)
        rcases hp with ⟨hlv, hsl, hpe⟩ | ⟨rfl, rfl, hpe⟩
        · have d4 : ((lv : Int) = 4) = False := eq_false (by omega)
          by_cases hk : lvl now t.2 = lv
          · have dk : (((lvl now t.2 : Nat) : Int) = (lv : Int)) = True := eq_true (by omega)
            have dl : ((lv : Int) < 4) = True := eq_true (by omega)
            simp only [oneW_next, s_0, s_1, s_2, s_3, s_4, Hands, handsV, resultsV, oneOrTuple, argsT, ev, evs, evPairs, evOpt, closed, flat, nth, aCall, aEnter, notYield, aNilCheck, aLoad, partV, isAggD, aFieldAddr, aField, aExtract, Option.isNone, aBuiltin, cond_true, cond_false, cond_dec, if_true, if_false, List.length_cons, List.length_nil, forall_const, implies_true, List.append_nil, List.cons_append, List.nil_append, eq_self, Nat.reduceEqDiff, Nat.reduceAdd, Nat.reduceMul, Nat.reduceSub, Nat.reduceLT, Nat.reduceLeDiff, Nat.reduceBEq, reduceIte, reduceCtorEq, ti63, t63_desc, t63_size, ti25, t25_desc, ti22, t22_desc, t22_size, ti59, t59_desc, t59_size, ti60, t60_desc, t60_size, ti61, t61_desc, t61_size, ti3, t3_desc, t3_size, ti40, t40_desc, t40_size, ti33, t33_desc, t33_size, ti9, t9_desc, t9_size, wrow_now, wrow_all, eqnil25, fn17, fn26, fn27, fn28, fn29, fn38, fn39, fn12, fn14, fn15, q_0, q_1, q_2, f_0, pendW, hasN, reorder, E0_ron, exists_eq', List.length_cons, List.length_nil, u8, u0, u1, u2, u7, ti44, t44_desc, ti47, t47_desc, t47_size, ti45, t45_desc, t45_size, ti53, t53_desc, t53_size, ge, undef, dk, dl, d4, hix, hb, get_next, hr1, ga]
            refine CallT.mono (figure_spec hta hll) ?_
            rintro _ _ ⟨rfl, rfl⟩
            by_cases hd : t.2 / 16 ^ lvl now t.2 % 16 = sl
            · have dd : (((t.2 / 16 ^ lvl now t.2 % 16 : Nat) : Int) = (sl : Int)) = True := eq_true (by omega)
              have hpy : plc now t.2 = p := by rw [hpe]; exact (plc_slot hlv hsl).2 ⟨hk, by rw [← hk]; exact hd⟩
              rw [if_pos hpy] at htk
              simp only [oneW_next, s_0, s_1, s_2, s_3, s_4, Hands, handsV, resultsV, oneOrTuple, argsT, ev, evs, evPairs, evOpt, closed, flat, nth, aCall, aEnter, notYield, aNilCheck, aLoad, partV, isAggD, aFieldAddr, aField, aExtract, Option.isNone, aBuiltin, cond_true, cond_false, cond_dec, if_true, if_false, List.length_cons, List.length_nil, forall_const, implies_true, List.append_nil, List.cons_append, List.nil_append, eq_self, Nat.reduceEqDiff, Nat.reduceAdd, Nat.reduceMul, Nat.reduceSub, Nat.reduceLT, Nat.reduceLeDiff, Nat.reduceBEq, reduceIte, reduceCtorEq, ti63, t63_desc, t63_size, ti25, t25_desc, ti22, t22_desc, t22_size, ti59, t59_desc, t59_size, ti60, t60_desc, t60_size, ti61, t61_desc, t61_size, ti3, t3_desc, t3_size, ti40, t40_desc, t40_size, ti33, t33_desc, t33_size, ti9, t9_desc, t9_size, wrow_now, wrow_all, eqnil25, fn17, fn26, fn27, fn28, fn29, fn38, fn39, fn12, fn14, fn15, q_0, q_1, q_2, f_0, pendW, hasN, reorder, E0_ron, exists_eq', List.length_cons, List.length_nil, u8, u0, u1, u2, u7, ti44, t44_desc, ti47, t47_desc, t47_size, ti45, t45_desc, t45_size, ti53, t53_desc, t53_size, ge, undef, dk, dl, d4, dd, wrap_succ (show i < 1000000 by omega), hix, hb, get_next, hr1, hcp, bs45, happ]
              exact ⟨L.length - (i + 1), by omega, i + 1, r', rfl, by omega, rfl, rfl, by rw [htk]; exact hs2, ⟨by omega, fun b hb _ => by rw [hg2 b hb, ASt.get_new, if_neg (by show b ≠ A1.next + 14; omega), get_next]; exact hf.get b hb (by simp)⟩⟩
            · have dd : (((t.2 / 16 ^ lvl now t.2 % 16 : Nat) : Int) = (sl : Int)) = False := eq_false (by omega)
              have hpn : ¬ plc now t.2 = p := by rw [hpe]; exact fun e => hd (by rw [hk]; exact ((plc_slot hlv hsl).1 e).2)
              rw [if_neg hpn, List.append_nil] at htk
              simp only [oneW_next, s_0, s_1, s_2, s_3, s_4, Hands, handsV, resultsV, oneOrTuple, argsT, ev, evs, evPairs, evOpt, closed, flat, nth, aCall, aEnter, notYield, aNilCheck, aLoad, partV, isAggD, aFieldAddr, aField, aExtract, Option.isNone, aBuiltin, cond_true, cond_false, cond_dec, if_true, if_false, List.length_cons, List.length_nil, forall_const, implies_true, List.append_nil, List.cons_append, List.nil_append, eq_self, Nat.reduceEqDiff, Nat.reduceAdd, Nat.reduceMul, Nat.reduceSub, Nat.reduceLT, Nat.reduceLeDiff, Nat.reduceBEq, reduceIte, reduceCtorEq, ti63, t63_desc, t63_size, ti25, t25_desc, ti22, t22_desc, t22_size, ti59, t59_desc, t59_size, ti60, t60_desc, t60_size, ti61, t61_desc, t61_size, ti3, t3_desc, t3_size, ti40, t40_desc, t40_size, ti33, t33_desc, t33_size, ti9, t9_desc, t9_size, wrow_now, wrow_all, eqnil25, fn17, fn26, fn27, fn28, fn29, fn38, fn39, fn12, fn14, fn15, q_0, q_1, q_2, f_0, pendW, hasN, reorder, E0_ron, exists_eq', List.length_cons, List.length_nil, u8, u0, u1, u2, u7, ti44, t44_desc, ti47, t47_desc, t47_size, ti45, t45_desc, t45_size, ti53, t53_desc, t53_size, ge, undef, dk, dl, d4, dd, wrap_succ (show i < 1000000 by omega)]
              exact ⟨L.length - (i + 1), by omega, i + 1, r, rfl, by omega, rfl, rfl, by rw [htk]; exact hs.fr hbump (by simp), hf.trans hbump⟩
          · have dk : (((lvl now t.2 : Nat) : Int) = (lv : Int)) = False := eq_false (by omega)
            have hpn : ¬ plc now t.2 = p := by rw [hpe]; exact fun e => hk ((plc_slot hlv hsl).1 e).1
            rw [if_neg hpn, List.append_nil] at htk
            simp only [oneW_next, s_0, s_1, s_2, s_3, s_4, Hands, handsV, resultsV, oneOrTuple, argsT, ev, evs, evPairs, evOpt, closed, flat, nth, aCall, aEnter, notYield, aNilCheck, aLoad, partV, isAggD, aFieldAddr, aField, aExtract, Option.isNone, aBuiltin, cond_true, cond_false, cond_dec, if_true, if_false, List.length_cons, List.length_nil, forall_const, implies_true, List.append_nil, List.cons_append, List.nil_append, eq_self, Nat.reduceEqDiff, Nat.reduceAdd, Nat.reduceMul, Nat.reduceSub, Nat.reduceLT, Nat.reduceLeDiff, Nat.reduceBEq, reduceIte, reduceCtorEq, ti63, t63_desc, t63_size, ti25, t25_desc, ti22, t22_desc, t22_size, ti59, t59_desc, t59_size, ti60, t60_desc, t60_size, ti61, t61_desc, t61_size, ti3, t3_desc, t3_size, ti40, t40_desc, t40_size, ti33, t33_desc, t33_size, ti9, t9_desc, t9_size, wrow_now, wrow_all, eqnil25, fn17, fn26, fn27, fn28, fn29, fn38, fn39, fn12, fn14, fn15, q_0, q_1, q_2, f_0, pendW, hasN, reorder, E0_ron, exists_eq', List.length_cons, List.length_nil, u8, u0, u1, u2, u7, ti44, t44_desc, ti47, t47_desc, t47_size, ti45, t45_desc, t45_size, ti53, t53_desc, t53_size, ge, undef, dk, d4, wrap_succ (show i < 1000000 by omega)]
            exact ⟨L.length - (i + 1), by omega, i + 1, r, rfl, by omega, rfl, rfl, by rw [htk]; exact hs.fr hbump (by simp), hf.trans hbump⟩
        · have dl : (((4 : Nat) : Int) < 4) = False := eq_false (by omega)
          have d4 : (((4 : Nat) : Int) = 4) = True := eq_true (by omega)
          by_cases hk : lvl now t.2 = 4
          · have dk : (((lvl now t.2 : Nat) : Int) = ((4 : Nat) : Int)) = True := eq_true (by omega)
            have d3 : (((lvl now t.2 : Nat) : Int) > 3) = True := eq_true (by omega)
            have hpy : plc now t.2 = p := by rw [hpe]; exact plc_farl.2 (by omega)
            rw [if_pos hpy] at htk
            simp only [oneW_next, s_0, s_1, s_2, s_3, s_4, Hands, handsV, resultsV, oneOrTuple, argsT, ev, evs, evPairs, evOpt, closed, flat, nth, aCall, aEnter, notYield, aNilCheck, aLoad, partV, isAggD, aFieldAddr, aField, aExtract, Option.isNone, aBuiltin, cond_true, cond_false, cond_dec, if_true, if_false, List.length_cons, List.length_nil, forall_const, implies_true, List.append_nil, List.cons_append, List.nil_append, eq_self, Nat.reduceEqDiff, Nat.reduceAdd, Nat.reduceMul, Nat.reduceSub, Nat.reduceLT, Nat.reduceLeDiff, Nat.reduceBEq, reduceIte, reduceCtorEq, ti63, t63_desc, t63_size, ti25, t25_desc, ti22, t22_desc, t22_size, ti59, t59_desc, t59_size, ti60, t60_desc, t60_size, ti61, t61_desc, t61_size, ti3, t3_desc, t3_size, ti40, t40_desc, t40_size, ti33, t33_desc, t33_size, ti9, t9_desc, t9_size, wrow_now, wrow_all, eqnil25, fn17, fn26, fn27, fn28, fn29, fn38, fn39, fn12, fn14, fn15, q_0, q_1, q_2, f_0, pendW, hasN, reorder, E0_ron, exists_eq', List.length_cons, List.length_nil, u8, u0, u1, u2, u7, ti44, t44_desc, ti47, t47_desc, t47_size, ti45, t45_desc, t45_size, ti53, t53_desc, t53_size, ge, undef, dk, dl, d4, d3, wrap_succ (show i < 1000000 by omega), hix, hb, get_next, hr1, hcp, bs45, happ]
            exact ⟨L.length - (i + 1), by omega, i + 1, r', rfl, by omega, rfl, rfl, by rw [htk]; exact hs2, ⟨by omega, fun b hb _ => by rw [hg2 b hb, ASt.get_new, if_neg (by show b ≠ A1.next + 14; omega), get_next]; exact hf.get b hb (by simp)⟩⟩
          · have dk : (((lvl now t.2 : Nat) : Int) = ((4 : Nat) : Int)) = False := eq_false (by omega)
            by_cases h3 : 3 < lvl now t.2
            · have d3 : (((lvl now t.2 : Nat) : Int) > 3) = True := eq_true (by omega)
              have hpy : plc now t.2 = p := by rw [hpe]; exact plc_farl.2 h3
              rw [if_pos hpy] at htk
              simp only [oneW_next, s_0, s_1, s_2, s_3, s_4, Hands, handsV, resultsV, oneOrTuple, argsT, ev, evs, evPairs, evOpt, closed, flat, nth, aCall, aEnter, notYield, aNilCheck, aLoad, partV, isAggD, aFieldAddr, aField, aExtract, Option.isNone, aBuiltin, cond_true, cond_false, cond_dec, if_true, if_false, List.length_cons, List.length_nil, forall_const, implies_true, List.append_nil, List.cons_append, List.nil_append, eq_self, Nat.reduceEqDiff, Nat.reduceAdd, Nat.reduceMul, Nat.reduceSub, Nat.reduceLT, Nat.reduceLeDiff, Nat.reduceBEq, reduceIte, reduceCtorEq, ti63, t63_desc, t63_size, ti25, t25_desc, ti22, t22_desc, t22_size, ti59, t59_desc, t59_size, ti60, t60_desc, t60_size, ti61, t61_desc, t61_size, ti3, t3_desc, t3_size, ti40, t40_desc, t40_size, ti33, t33_desc, t33_size, ti9, t9_desc, t9_size, wrow_now, wrow_all, eqnil25, fn17, fn26, fn27, fn28, fn29, fn38, fn39, fn12, fn14, fn15, q_0, q_1, q_2, f_0, pendW, hasN, reorder, E0_ron, exists_eq', List.length_cons, List.length_nil, u8, u0, u1, u2, u7, ti44, t44_desc, ti47, t47_desc, t47_size, ti45, t45_desc, t45_size, ti53, t53_desc, t53_size, ge, undef, dk, d4, d3, wrap_succ (show i < 1000000 by omega), hix, hb, get_next, hr1, hcp, bs45, happ]
              exact ⟨L.length - (i + 1), by omega, i + 1, r', rfl, by omega, rfl, rfl, by rw [htk]; exact hs2, ⟨by omega, fun b hb _ => by rw [hg2 b hb, ASt.get_new, if_neg (by show b ≠ A1.next + 14; omega), get_next]; exact hf.get b hb (by simp)⟩⟩
            · have d3 : (((lvl now t.2 : Nat) : Int) > 3) = False := eq_false (by omega)
              have hpn : ¬ plc now t.2 = p := by rw [hpe]; exact fun e => h3 (plc_farl.1 e)
              rw [if_neg hpn, List.append_nil] at htk
              simp only [oneW_next, s_0, s_1, s_2, s_3, s_4, Hands, handsV, resultsV, oneOrTuple, argsT, ev, evs, evPairs, evOpt, closed, flat, nth, aCall, aEnter, notYield, aNilCheck, aLoad, partV, isAggD, aFieldAddr, aField, aExtract, Option.isNone, aBuiltin, cond_true, cond_false, cond_dec, if_true, if_false, List.length_cons, List.length_nil, forall_const, implies_true, List.append_nil, List.cons_append, List.nil_append, eq_self, Nat.reduceEqDiff, Nat.reduceAdd, Nat.reduceMul, Nat.reduceSub, Nat.reduceLT, Nat.reduceLeDiff, Nat.reduceBEq, reduceIte, reduceCtorEq, ti63, t63_desc, t63_size, ti25, t25_desc, ti22, t22_desc, t22_size, ti59, t59_desc, t59_size, ti60, t60_desc, t60_size, ti61, t61_desc, t61_size, ti3, t3_desc, t3_size, ti40, t40_desc, t40_size, ti33, t33_desc, t33_size, ti9, t9_desc, t9_size, wrow_now, wrow_all, eqnil25, fn17, fn26, fn27, fn28, fn29, fn38, fn39, fn12, fn14, fn15, q_0, q_1, q_2, f_0, pendW, hasN, reorder, E0_ron, exists_eq', List.length_cons, List.length_nil, u8, u0, u1, u2, u7, ti44, t44_desc, ti47, t47_desc, t47_size, ti45, t45_desc, t45_size, ti53, t53_desc, t53_size, ge, undef, dk, d4, d3, wrap_succ (show i < 1000000 by omega)]
              exact ⟨L.length - (i + 1), by omega, i + 1, r, rfl, by omega, rfl, rfl, by rw [htk]; exact hs.fr hbump (by simp), hf.trans hbump⟩
      · have d1 : ((i : Int) < (L.length : Int)) = False := eq_false (by omega)
        simp only [oneW_next, s_0, s_1, s_2, s_3, s_4, Hands, handsV, resultsV, oneOrTuple, argsT, ev, evs, evPairs, evOpt, closed, flat, nth, aCall, aEnter, notYield, aNilCheck, aLoad, partV, isAggD, aFieldAddr, aField, aExtract, Option.isNone, aBuiltin, cond_true, cond_false, cond_dec, if_true, if_false, List.length_cons, List.length_nil, forall_const, implies_true, List.append_nil, List.cons_append, List.nil_append, eq_self, Nat.reduceEqDiff, Nat.reduceAdd, Nat.reduceMul, Nat.reduceSub, Nat.reduceLT, Nat.reduceLeDiff, Nat.reduceBEq, reduceIte, reduceCtorEq, ti63, t63_desc, t63_size, ti25, t25_desc, ti22, t22_desc, t22_size, ti59, t59_desc, t59_size, ti60, t60_desc, t60_size, ti61, t61_desc, t61_size, ti3, t3_desc, t3_size, ti40, t40_desc, t40_size, ti33, t33_desc, t33_size, ti9, t9_desc, t9_size, wrow_now, wrow_all, eqnil25, fn17, fn26, fn27, fn28, fn29, fn38, fn39, fn12, fn14, fn15, u8, u0, ti44, t44_desc, ti47, t47_desc, t47_size, ti45, t45_desc, t45_size, ti53, t53_desc, t53_size, hr1, hlen, d1]
        rw [List.take_of_length_le (by omega)] at hs
        exact ⟨_, _, r, rfl, by simp only [tget_put, Nat.reduceEqDiff, if_false, if_true, reduceIte, u7], hs, hf⟩
    all_goals simp only [tget_put, Nat.reduceEqDiff, if_false, if_true, reduceIte]
    all_goals rfl
  · rintro o ⟨T', A', r, rfl, u7, hs, hf⟩
    simp only [oneW_next, s_0, s_1, s_2, s_3, s_4, Hands, handsV, resultsV, oneOrTuple, argsT, ev, evs, evPairs, evOpt, closed, flat, nth, aCall, aEnter, notYield, aNilCheck, aLoad, partV, isAggD, aFieldAddr, aField, aExtract, Option.isNone, aBuiltin, cond_true, cond_false, cond_dec, if_true, if_false, List.length_cons, List.length_nil, forall_const, implies_true, List.append_nil, List.cons_append, List.nil_append, eq_self, Nat.reduceEqDiff, Nat.reduceAdd, Nat.reduceMul, Nat.reduceSub, Nat.reduceLT, Nat.reduceLeDiff, Nat.reduceBEq, reduceIte, reduceCtorEq, ti63, t63_desc, t63_size, ti25, t25_desc, ti22, t22_desc, t22_size, ti59, t59_desc, t59_size, ti60, t60_desc, t60_size, ti61, t61_desc, t61_size, ti3, t3_desc, t3_size, ti40, t40_desc, t40_size, ti33, t33_desc, t33_size, ti9, t9_desc, t9_size, wrow_now, wrow_all, eqnil25, fn17, fn26, fn27, fn28, fn29, fn38, fn39, fn12, fn14, fn15, u7]
    refine ⟨_, hs, ⟨fun k a => ?_, hL.ord.sublist List.filter_sublist⟩, List.length_filter_le _ _, hf⟩
    rw [List.mem_filter, hL.mem]
    unfold TM.at_
    rw [Option.filter_eq_some_iff]
end Go.Proofs.Ytpmpclieclcbdaa

/- The wheel's places against the document's. -/
namespace Go.Proofs.Ytpmpclieclcbdaa
open Go Go.AE Go.Sort

variable {Z : Go.AE.Road}
set_option maxRecDepth 10000
set_option maxHeartbeats 4000000

theorem un_notP {b : Bool} : aUn .not (.bool b) = some (.bool (!b)) := by rw [aUn]

theorem stands_spec {A : ASt} {W all m now : Nat} {ms : List Nat} {M : TM} {v : Value} {L : List (ByteArray × Nat)} (h : WheelAt A W all ms now M) (hF : Few M) (d : DocAt A m now v L) (hL : Lists M L) (hl : L.length ≤ 900) :
    CallW Z Try.prog 23 [.pointer (some ⟨W, 0, none⟩), .pointer (some ⟨m, 0, none⟩)] A (fun r A' => r = .bool true ∧ Fr [] A A') := by
  refine CallW.of_code E0_ok E0_ro fn23 rfl (n := 32) rfl (rs := [.tmp 4]) rfl (by simp) (codeW_ok E0_ok E0_ro ?_)
  simp only [oneW_next, s_0, s_1, s_2, s_3, s_4, Hands, handsV, resultsV, oneOrTuple, argsT, ev, evs, evPairs, evOpt, closed, flat, nth, aCall, aEnter, notYield, aNilCheck, aLoad, partV, isAggD, aFieldAddr, aField, aExtract, Option.isNone, aBuiltin, cond_true, cond_false, cond_dec, if_true, if_false, List.length_cons, List.length_nil, forall_const, implies_true, List.append_nil, List.cons_append, List.nil_append, eq_self, Nat.reduceEqDiff, Nat.reduceAdd, Nat.reduceMul, Nat.reduceSub, Nat.reduceLT, Nat.reduceLeDiff, Nat.reduceBEq, reduceIte, reduceCtorEq, ti63, t63_desc, t63_size, ti25, t25_desc, ti22, t22_desc, t22_size, ti59, t59_desc, t59_size, ti60, t60_desc, t60_size, ti61, t61_desc, t61_size, ti3, t3_desc, t3_size, ti40, t40_desc, t40_size, ti33, t33_desc, t33_size, ti9, t9_desc, t9_size, wrow_now, wrow_all, eqnil25, fn17, fn26, fn27, fn28, fn29, fn38, fn39, fn12, fn14, fn15]
  refine CodeW.mono (Q := fun o => ∃ T' A', o = .fr ⟨.exit 0, T', A'⟩ ∧ tget T' 0 = .pointer (some ⟨W, 0, none⟩) ∧ tget T' 1 = .pointer (some ⟨m, 0, none⟩) ∧ Fr [] A A') ?_ ?_
  · refine CodeW.loopR (k := 4) (fun k T A' => ∃ p, k = 4 - p ∧ p ≤ 4 ∧ tget T 5 = .int .i64 ((p : Nat) : Int) ∧ tget T 0 = .pointer (some ⟨W, 0, none⟩) ∧ tget T 1 = .pointer (some ⟨m, 0, none⟩) ∧ Fr [] A A') ?_ ⟨0, rfl, by omega, ?_, ?_, ?_, .refl _ _⟩
    · rintro k T A1 ⟨p, rfl, hp, u5, u0, u1, f1⟩
      refine codeW_ok E0_ok E0_ro ?_
      by_cases e1 : p < 4
      · have d1 : ((p : Int) < 4) = True := eq_true (by omega)
        simp only [oneW_next, s_0, s_1, s_2, s_3, s_4, Hands, handsV, resultsV, oneOrTuple, argsT, ev, evs, evPairs, evOpt, closed, flat, nth, aCall, aEnter, notYield, aNilCheck, aLoad, partV, isAggD, aFieldAddr, aField, aExtract, Option.isNone, aBuiltin, cond_true, cond_false, cond_dec, if_true, if_false, List.length_cons, List.length_nil, forall_const, implies_true, List.append_nil, List.cons_append, List.nil_append, eq_self, Nat.reduceEqDiff, Nat.reduceAdd, Nat.reduceMul, Nat.reduceSub, Nat.reduceLT, Nat.reduceLeDiff, Nat.reduceBEq, reduceIte, reduceCtorEq, ti63, t63_desc, t63_size, ti25, t25_desc, ti22, t22_desc, t22_size, ti59, t59_desc, t59_size, ti60, t60_desc, t60_size, ti61, t61_desc, t61_size, ti3, t3_desc, t3_size, ti40, t40_desc, t40_size, ti33, t33_desc, t33_size, ti9, t9_desc, t9_size, wrow_now, wrow_all, eqnil25, fn17, fn26, fn27, fn28, fn29, fn38, fn39, fn12, fn14, fn15, u5, d1]
        refine CodeW.mono (Q := fun o => ∃ T' A', o = .fr ⟨.exit 2, T', A'⟩ ∧ tget T' 5 = .int .i64 (p : Int) ∧ tget T' 0 = .pointer (some ⟨W, 0, none⟩) ∧ tget T' 1 = .pointer (some ⟨m, 0, none⟩) ∧ Fr [] A A') ?_ ?_
        · refine CodeW.loopR (k := 16) (fun k T A' => ∃ j, k = 16 - j ∧ j ≤ 16 ∧ tget T 6 = .int .i64 ((j : Nat) : Int) ∧ tget T 5 = .int .i64 (p : Int) ∧ tget T 0 = .pointer (some ⟨W, 0, none⟩) ∧ tget T 1 = .pointer (some ⟨m, 0, none⟩) ∧ Fr [] A A') ?_ ⟨0, rfl, by omega, ?_, ?_, ?_, ?_, f1⟩
          · rintro k T A2 ⟨j, rfl, hj, z6, z5, z0, z1, f2⟩
            refine codeW_ok E0_ok E0_ro ?_
            by_cases e2 : j < 16
            · have d2 : ((j : Int) < 16) = True := eq_true (by omega)
              have hw := h.congr f2.next fun b hb => f2.get b (h.below b hb) (by simp)
              simp only [oneW_next, s_0, s_1, s_2, s_3, s_4, Hands, handsV, resultsV, oneOrTuple, argsT, ev, evs, evPairs, evOpt, closed, flat, nth, aCall, aEnter, notYield, aNilCheck, aLoad, partV, isAggD, aFieldAddr, aField, aExtract, Option.isNone, aBuiltin, cond_true, cond_false, cond_dec, if_true, if_false, List.length_cons, List.length_nil, forall_const, implies_true, List.append_nil, List.cons_append, List.nil_append, eq_self, Nat.reduceEqDiff, Nat.reduceAdd, Nat.reduceMul, Nat.reduceSub, Nat.reduceLT, Nat.reduceLeDiff, Nat.reduceBEq, reduceIte, reduceCtorEq, ti63, t63_desc, t63_size, ti25, t25_desc, ti22, t22_desc, t22_size, ti59, t59_desc, t59_size, ti60, t60_desc, t60_size, ti61, t61_desc, t61_size, ti3, t3_desc, t3_size, ti40, t40_desc, t40_size, ti33, t33_desc, t33_size, ti9, t9_desc, t9_size, wrow_now, wrow_all, eqnil25, fn17, fn26, fn27, fn28, fn29, fn38, fn39, fn12, fn14, fn15, z6, z5, z0, z1, d2]
              refine CallT.mono (slot_spec hw hF e1 e2) ?_
              rintro r B ⟨ts, hts, hs, fB⟩
              have dB := d.fr (f2.trans fB) (by simp) (by simp)
              simp only [oneW_next, s_0, s_1, s_2, s_3, s_4, Hands, handsV, resultsV, oneOrTuple, argsT, ev, evs, evPairs, evOpt, closed, flat, nth, aCall, aEnter, notYield, aNilCheck, aLoad, partV, isAggD, aFieldAddr, aField, aExtract, Option.isNone, aBuiltin, cond_true, cond_false, cond_dec, if_true, if_false, List.length_cons, List.length_nil, forall_const, implies_true, List.append_nil, List.cons_append, List.nil_append, eq_self, Nat.reduceEqDiff, Nat.reduceAdd, Nat.reduceMul, Nat.reduceSub, Nat.reduceLT, Nat.reduceLeDiff, Nat.reduceBEq, reduceIte, reduceCtorEq, ti63, t63_desc, t63_size, ti25, t25_desc, ti22, t22_desc, t22_size, ti59, t59_desc, t59_size, ti60, t60_desc, t60_size, ti61, t61_desc, t61_size, ti3, t3_desc, t3_size, ti40, t40_desc, t40_size, ti33, t33_desc, t33_size, ti9, t9_desc, t9_size, wrow_now, wrow_all, eqnil25, fn17, fn26, fn27, fn28, fn29, fn38, fn39, fn12, fn14, fn15, z6, z5, z0, z1]
              refine CallT.mono (doc_slot dB hL hl h.nowlt h.lt h.gt (.inl ⟨e1, e2, rfl⟩)) ?_
              rintro r' C ⟨Ls, hls, hL', hlen, fC⟩
              have e := hts.uniq hL'
              subst e
              simp only [oneW_next, s_0, s_1, s_2, s_3, s_4, Hands, handsV, resultsV, oneOrTuple, argsT, ev, evs, evPairs, evOpt, closed, flat, nth, aCall, aEnter, notYield, aNilCheck, aLoad, partV, isAggD, aFieldAddr, aField, aExtract, Option.isNone, aBuiltin, cond_true, cond_false, cond_dec, if_true, if_false, List.length_cons, List.length_nil, forall_const, implies_true, List.append_nil, List.cons_append, List.nil_append, eq_self, Nat.reduceEqDiff, Nat.reduceAdd, Nat.reduceMul, Nat.reduceSub, Nat.reduceLT, Nat.reduceLeDiff, Nat.reduceBEq, reduceIte, reduceCtorEq, ti63, t63_desc, t63_size, ti25, t25_desc, ti22, t22_desc, t22_size, ti59, t59_desc, t59_size, ti60, t60_desc, t60_size, ti61, t61_desc, t61_size, ti3, t3_desc, t3_size, ti40, t40_desc, t40_size, ti33, t33_desc, t33_size, ti9, t9_desc, t9_size, wrow_now, wrow_all, eqnil25, fn17, fn26, fn27, fn28, fn29, fn38, fn39, fn12, fn14, fn15, z6, z5, z0, z1]
              refine CallT.mono (same_spec (hs.fr fC (by simp)) hls.reads (by omega)) ?_
              rintro _ D ⟨rfl, fD⟩
              simp only [oneW_next, s_0, s_1, s_2, s_3, s_4, Hands, handsV, resultsV, oneOrTuple, argsT, ev, evs, evPairs, evOpt, closed, flat, nth, aCall, aEnter, notYield, aNilCheck, aLoad, partV, isAggD, aFieldAddr, aField, aExtract, Option.isNone, aBuiltin, cond_true, cond_false, cond_dec, if_true, if_false, List.length_cons, List.length_nil, forall_const, implies_true, List.append_nil, List.cons_append, List.nil_append, eq_self, Nat.reduceEqDiff, Nat.reduceAdd, Nat.reduceMul, Nat.reduceSub, Nat.reduceLT, Nat.reduceLeDiff, Nat.reduceBEq, reduceIte, reduceCtorEq, ti63, t63_desc, t63_size, ti25, t25_desc, ti22, t22_desc, t22_size, ti59, t59_desc, t59_size, ti60, t60_desc, t60_size, ti61, t61_desc, t61_size, ti3, t3_desc, t3_size, ti40, t40_desc, t40_size, ti33, t33_desc, t33_size, ti9, t9_desc, t9_size, wrow_now, wrow_all, eqnil25, fn17, fn26, fn27, fn28, fn29, fn38, fn39, fn12, fn14, fn15, z6, z5, z0, z1, un_notP, Bool.not_true, wrap_succ (show j < 1000000 by omega)]
              exact ⟨16 - (j + 1), by omega, j + 1, rfl, by omega, rfl, f2.trans (fB.trans (fC.trans fD))⟩
            · have d2 : ((j : Int) < 16) = False := eq_false (by omega)
              simp only [oneW_next, s_0, s_1, s_2, s_3, s_4, Hands, handsV, resultsV, oneOrTuple, argsT, ev, evs, evPairs, evOpt, closed, flat, nth, aCall, aEnter, notYield, aNilCheck, aLoad, partV, isAggD, aFieldAddr, aField, aExtract, Option.isNone, aBuiltin, cond_true, cond_false, cond_dec, if_true, if_false, List.length_cons, List.length_nil, forall_const, implies_true, List.append_nil, List.cons_append, List.nil_append, eq_self, Nat.reduceEqDiff, Nat.reduceAdd, Nat.reduceMul, Nat.reduceSub, Nat.reduceLT, Nat.reduceLeDiff, Nat.reduceBEq, reduceIte, reduceCtorEq, ti63, t63_desc, t63_size, ti25, t25_desc, ti22, t22_desc, t22_size, ti59, t59_desc, t59_size, ti60, t60_desc, t60_size, ti61, t61_desc, t61_size, ti3, t3_desc, t3_size, ti40, t40_desc, t40_size, ti33, t33_desc, t33_size, ti9, t9_desc, t9_size, wrow_now, wrow_all, eqnil25, fn17, fn26, fn27, fn28, fn29, fn38, fn39, fn12, fn14, fn15, z6, d2]
              exact ⟨_, _, rfl, by simp only [tget_put, Nat.reduceEqDiff, if_false, if_true, reduceIte, z5], by simp only [tget_put, Nat.reduceEqDiff, if_false, if_true, reduceIte, z0], by simp only [tget_put, Nat.reduceEqDiff, if_false, if_true, reduceIte, z1], f2⟩
          all_goals simp only [tget_put, Nat.reduceEqDiff, if_false, if_true, reduceIte, u5, u0, u1]
          all_goals rfl
        · rintro o ⟨T2, A2, rfl, z5, z0, z1, f2⟩
          simp only [oneW_next, s_0, s_1, s_2, s_3, s_4, Hands, handsV, resultsV, oneOrTuple, argsT, ev, evs, evPairs, evOpt, closed, flat, nth, aCall, aEnter, notYield, aNilCheck, aLoad, partV, isAggD, aFieldAddr, aField, aExtract, Option.isNone, aBuiltin, cond_true, cond_false, cond_dec, if_true, if_false, List.length_cons, List.length_nil, forall_const, implies_true, List.append_nil, List.cons_append, List.nil_append, eq_self, Nat.reduceEqDiff, Nat.reduceAdd, Nat.reduceMul, Nat.reduceSub, Nat.reduceLT, Nat.reduceLeDiff, Nat.reduceBEq, reduceIte, reduceCtorEq, ti63, t63_desc, t63_size, ti25, t25_desc, ti22, t22_desc, t22_size, ti59, t59_desc, t59_size, ti60, t60_desc, t60_size, ti61, t61_desc, t61_size, ti3, t3_desc, t3_size, ti40, t40_desc, t40_size, ti33, t33_desc, t33_size, ti9, t9_desc, t9_size, wrow_now, wrow_all, eqnil25, fn17, fn26, fn27, fn28, fn29, fn38, fn39, fn12, fn14, fn15, z5, wrap_succ (show p < 1000000 by omega)]
          exact ⟨4 - (p + 1), by omega, p + 1, rfl, by omega, rfl, z0, z1, f2⟩
      · have d1 : ((p : Int) < 4) = False := eq_false (by omega)
        simp only [oneW_next, s_0, s_1, s_2, s_3, s_4, Hands, handsV, resultsV, oneOrTuple, argsT, ev, evs, evPairs, evOpt, closed, flat, nth, aCall, aEnter, notYield, aNilCheck, aLoad, partV, isAggD, aFieldAddr, aField, aExtract, Option.isNone, aBuiltin, cond_true, cond_false, cond_dec, if_true, if_false, List.length_cons, List.length_nil, forall_const, implies_true, List.append_nil, List.cons_append, List.nil_append, eq_self, Nat.reduceEqDiff, Nat.reduceAdd, Nat.reduceMul, Nat.reduceSub, Nat.reduceLT, Nat.reduceLeDiff, Nat.reduceBEq, reduceIte, reduceCtorEq, ti63, t63_desc, t63_size, ti25, t25_desc, ti22, t22_desc, t22_size, ti59, t59_desc, t59_size, ti60, t60_desc, t60_size, ti61, t61_desc, t61_size, ti3, t3_desc, t3_size, ti40, t40_desc, t40_size, ti33, t33_desc, t33_size, ti9, t9_desc, t9_size, wrow_now, wrow_all, eqnil25, fn17, fn26, fn27, fn28, fn29, fn38, fn39, fn12, fn14, fn15, u5, d1]
        exact ⟨_, _, rfl, by simp only [tget_put, Nat.reduceEqDiff, if_false, if_true, reduceIte, u0], by simp only [tget_put, Nat.reduceEqDiff, if_false, if_true, reduceIte, u1], f1⟩
    all_goals simp only [tget_put, Nat.reduceEqDiff, if_false, if_true, reduceIte]
    all_goals rfl
  · rintro o ⟨T1, A1, rfl, u0, u1, f1⟩
    have hw := h.congr f1.next fun b hb => f1.get b (h.below b hb) (by simp)
    simp only [oneW_next, s_0, s_1, s_2, s_3, s_4, Hands, handsV, resultsV, oneOrTuple, argsT, ev, evs, evPairs, evOpt, closed, flat, nth, aCall, aEnter, notYield, aNilCheck, aLoad, partV, isAggD, aFieldAddr, aField, aExtract, Option.isNone, aBuiltin, cond_true, cond_false, cond_dec, if_true, if_false, List.length_cons, List.length_nil, forall_const, implies_true, List.append_nil, List.cons_append, List.nil_append, eq_self, Nat.reduceEqDiff, Nat.reduceAdd, Nat.reduceMul, Nat.reduceSub, Nat.reduceLT, Nat.reduceLeDiff, Nat.reduceBEq, reduceIte, reduceCtorEq, ti63, t63_desc, t63_size, ti25, t25_desc, ti22, t22_desc, t22_size, ti59, t59_desc, t59_size, ti60, t60_desc, t60_size, ti61, t61_desc, t61_size, ti3, t3_desc, t3_size, ti40, t40_desc, t40_size, ti33, t33_desc, t33_size, ti9, t9_desc, t9_size, wrow_now, wrow_all, eqnil25, fn17, fn26, fn27, fn28, fn29, fn38, fn39, fn12, fn14, fn15, u0, u1]
    refine CallT.mono (far_spec hw hF) ?_
    rintro r B ⟨ts, hts, hs, fB⟩
    have dB := d.fr (f1.trans fB) (by simp) (by simp)
    simp only [oneW_next, s_0, s_1, s_2, s_3, s_4, Hands, handsV, resultsV, oneOrTuple, argsT, ev, evs, evPairs, evOpt, closed, flat, nth, aCall, aEnter, notYield, aNilCheck, aLoad, partV, isAggD, aFieldAddr, aField, aExtract, Option.isNone, aBuiltin, cond_true, cond_false, cond_dec, if_true, if_false, List.length_cons, List.length_nil, forall_const, implies_true, List.append_nil, List.cons_append, List.nil_append, eq_self, Nat.reduceEqDiff, Nat.reduceAdd, Nat.reduceMul, Nat.reduceSub, Nat.reduceLT, Nat.reduceLeDiff, Nat.reduceBEq, reduceIte, reduceCtorEq, ti63, t63_desc, t63_size, ti25, t25_desc, ti22, t22_desc, t22_size, ti59, t59_desc, t59_size, ti60, t60_desc, t60_size, ti61, t61_desc, t61_size, ti3, t3_desc, t3_size, ti40, t40_desc, t40_size, ti33, t33_desc, t33_size, ti9, t9_desc, t9_size, wrow_now, wrow_all, eqnil25, fn17, fn26, fn27, fn28, fn29, fn38, fn39, fn12, fn14, fn15, u0, u1]
    refine CallT.mono (doc_slot (lv := 4) (sl := 0) (p := 64) dB hL hl h.nowlt h.lt h.gt (.inr ⟨rfl, rfl, rfl⟩)) ?_
    rintro r' C ⟨Ls, hls, hL', hlen, fC⟩
    have e := hts.uniq hL'
    subst e
    simp only [oneW_next, s_0, s_1, s_2, s_3, s_4, Hands, handsV, resultsV, oneOrTuple, argsT, ev, evs, evPairs, evOpt, closed, flat, nth, aCall, aEnter, notYield, aNilCheck, aLoad, partV, isAggD, aFieldAddr, aField, aExtract, Option.isNone, aBuiltin, cond_true, cond_false, cond_dec, if_true, if_false, List.length_cons, List.length_nil, forall_const, implies_true, List.append_nil, List.cons_append, List.nil_append, eq_self, Nat.reduceEqDiff, Nat.reduceAdd, Nat.reduceMul, Nat.reduceSub, Nat.reduceLT, Nat.reduceLeDiff, Nat.reduceBEq, reduceIte, reduceCtorEq, ti63, t63_desc, t63_size, ti25, t25_desc, ti22, t22_desc, t22_size, ti59, t59_desc, t59_size, ti60, t60_desc, t60_size, ti61, t61_desc, t61_size, ti3, t3_desc, t3_size, ti40, t40_desc, t40_size, ti33, t33_desc, t33_size, ti9, t9_desc, t9_size, wrow_now, wrow_all, eqnil25, fn17, fn26, fn27, fn28, fn29, fn38, fn39, fn12, fn14, fn15, u0, u1]
    refine CallT.mono (same_spec (hs.fr fC (by simp)) hls.reads (by omega)) ?_
    rintro _ D ⟨rfl, fD⟩
    simp only [oneW_next, s_0, s_1, s_2, s_3, s_4, Hands, handsV, resultsV, oneOrTuple, argsT, ev, evs, evPairs, evOpt, closed, flat, nth, aCall, aEnter, notYield, aNilCheck, aLoad, partV, isAggD, aFieldAddr, aField, aExtract, Option.isNone, aBuiltin, cond_true, cond_false, cond_dec, if_true, if_false, List.length_cons, List.length_nil, forall_const, implies_true, List.append_nil, List.cons_append, List.nil_append, eq_self, Nat.reduceEqDiff, Nat.reduceAdd, Nat.reduceMul, Nat.reduceSub, Nat.reduceLT, Nat.reduceLeDiff, Nat.reduceBEq, reduceIte, reduceCtorEq, ti63, t63_desc, t63_size, ti25, t25_desc, ti22, t22_desc, t22_size, ti59, t59_desc, t59_size, ti60, t60_desc, t60_size, ti61, t61_desc, t61_size, ti3, t3_desc, t3_size, ti40, t40_desc, t40_size, ti33, t33_desc, t33_size, ti9, t9_desc, t9_size, wrow_now, wrow_all, eqnil25, fn17, fn26, fn27, fn28, fn29, fn38, fn39, fn12, fn14, fn15]
    exact f1.trans (fB.trans (fC.trans fD))
end Go.Proofs.Ytpmpclieclcbdaa

/- The wheel: what stands ahead is due ahead. Plain. -/
namespace Go.Proofs.Ytpmpclieclcbdaa
open Go Go.AE

/-- The top bit in which a deadline above the clock differs. -/
theorem top_of {now a : Nat} (hnow : now < 18446744073709551616) (ha : a < 18446744073709551616) (hlt : now < a) : ∃ t, lvl now a = t / 4 ∧ a.testBit t = true ∧ now.testBit t = false ∧ ∀ j, t < j → a.testBit j = now.testBit j := by
  have hx : a ^^^ now < 18446744073709551616 := Nat.xor_lt_two_pow (n := 64) (by omega) (by omega)
  have hx0 : a ^^^ now ≠ 0 := fun e => by
    have : a = now := by
      apply Nat.eq_of_testBit_eq
      intro i
      have := congrArg (fun z => z.testBit i) e
      simp only [Nat.testBit_xor, Nat.zero_testBit] at this
      simpa using this
    omega
  obtain ⟨b1, b2, b3⟩ := bl_bounds hx hx0
  obtain ⟨t, ht⟩ : ∃ t, Lib.bitLen (a ^^^ now) = t + 1 := ⟨_, (Nat.sub_add_cancel b1).symm⟩
  rw [ht, Nat.add_sub_cancel] at b2
  rw [ht] at b3
  have xt := bit_top b2 b3
  have xz : ∀ j, t < j → (a ^^^ now).testBit j = false := fun j hj => Nat.testBit_lt_two_pow (Nat.lt_of_lt_of_le b3 (Nat.pow_le_pow_right (by omega) hj))
  have up : ∀ j, t < j → a.testBit j = now.testBit j := fun j hj => by
    have := xz j hj
    rw [Nat.testBit_xor] at this
    simpa using this
  rw [Nat.testBit_xor] at xt
  have hat : a.testBit t = true := by
    cases hb : a.testBit t with
    | true => rfl
    | false =>
      rw [hb, Bool.false_xor] at xt
      have := lt_bit t hb xt up
      omega
  rw [hat, Bool.true_xor, Bool.not_eq_true'] at xt
  exact ⟨t, by unfold lvl; rw [ht, Nat.add_sub_cancel], hat, xt, up⟩

theorem div_eq_of_bits {x y s : Nat} (h : ∀ j, s ≤ j → x.testBit j = y.testBit j) : x / 2 ^ s = y / 2 ^ s := by
  apply Nat.eq_of_testBit_eq
  intro i
  rw [Nat.testBit_div_two_pow, Nat.testBit_div_two_pow]
  exact h _ (by omega)

/-- Of a lower level: due ahead; of one level: of a lower slot. -/
theorem plc_lt_lt {now a b : Nat} (hnow : now < 18446744073709551616) (ha : a < 18446744073709551616) (hb : b < 18446744073709551616) (h1 : now < a) (h2 : now < b) (h : plc now a < plc now b) : a < b := by
  obtain ⟨s, s1, s2, s3, s4⟩ := top_of hnow ha h1
  obtain ⟨t, t1, t2, t3, t4⟩ := top_of hnow hb h2
  by_cases hl : lvl now a < lvl now b
  · -- b's top bit stands above a's
    have hst : s < t := by omega
    exact lt_bit t (by rw [s4 t hst]; exact t3) t2 fun j hj => by rw [s4 j (by omega), t4 j hj]
  · have ma : a / 2 ^ (4 * lvl now a) % 16 < 16 := Nat.mod_lt _ (by omega)
    have mb : b / 2 ^ (4 * lvl now b) % 16 < 16 := Nat.mod_lt _ (by omega)
    have hab : lvl now a < 4 ∧ lvl now a = lvl now b ∧ a / 2 ^ (4 * lvl now a) % 16 < b / 2 ^ (4 * lvl now b) % 16 := by
      unfold plc at h
      split at h <;> split at h <;> omega
    obtain ⟨_, e, hd⟩ := hab
    rw [← e] at hd
    have hhi : a / 2 ^ (4 * lvl now a + 4) = b / 2 ^ (4 * lvl now a + 4) := div_eq_of_bits fun j hj => by rw [s4 j (by omega), t4 j (by omega)]
    have q1 : a / 2 ^ (4 * lvl now a) / 16 = a / 2 ^ (4 * lvl now a + 4) := by rw [Nat.pow_add, Nat.div_div_eq_div_mul]
    have q2 : b / 2 ^ (4 * lvl now a) / 16 = b / 2 ^ (4 * lvl now a + 4) := by rw [Nat.pow_add, Nat.div_div_eq_div_mul]
    have h3 : a / 2 ^ (4 * lvl now a) < b / 2 ^ (4 * lvl now a) := by omega
    exact Nat.lt_of_not_le fun hle => by have := Nat.div_le_div_right (c := 2 ^ (4 * lvl now a)) hle; omega
theorem plc_le64 {now a : Nat} : plc now a ≤ 64 := by
  unfold plc
  split
  · omega
  · have : a / 2 ^ (4 * lvl now a) % 16 < 16 := Nat.mod_lt _ (by omega)
    omega
end Go.Proofs.Ytpmpclieclcbdaa

/- The numbers of a map, gathered through a range over a function. -/
namespace Go.Proofs.Ytpmpclieclcbdaa
open Go Go.AE Go.Sort

variable {Z : Go.AE.Road}
set_option maxRecDepth 10000
set_option maxHeartbeats 4000000

/-- The rounds of slices.AppendSeq. -/
def asC : Code := Code.region 2 #[{ dst := some 5, op := Op.assign (Operand.tmp 7), type := 22, pos := "iter.go:51", after := #[], guard := none }] false
def bC : Code := Code.block 1 (Code.region 3 #[{ dst := some 8, op := Op.load 23 (Operand.tmp 2), type := 23, pos := "iter.go:52", after := #[], guard := none }, { dst := some 9, op := Op.move (Operand.tmp 5), type := 22, pos := "iter.go:52", after := #[], guard := none }, { dst := some 10, op := Op.buildSlice 23 1 #[(0, Operand.tmp 9)], type := 23, pos := "iter.go:52", after := #[{ on := 1, ground := Ground.data }], guard := none }, { dst := some 11, op := Op.call { callee := Callee.builtin Builtin.append, args := #[Operand.tmp 8, Operand.tmp 10], argTypes := #[23, 23] }, type := 23, pos := "iter.go:52", after := #[{ on := 0, ground := Ground.data }, { on := 2, ground := Ground.data }], guard := none }, { dst := none, op := Op.store 23 (Operand.tmp 2) (Operand.tmp 11), type := 0, pos := "iter.go:52", after := #[{ on := 3, ground := Ground.data }, { on := 3, ground := Ground.chain }, { on := 0, ground := Ground.phase }, { on := 1, ground := Ground.phase }, { on := 2, ground := Ground.phase }, { on := 3, ground := Ground.phase }], guard := none }] false)

theorem SliceU.single {A : ASt} {lo : Nat} {v : Value} {l : List Nat} (h : SliceU A lo v l) : v.cells = #[v] ∧ single v = true := by
  rcases h with ⟨_, rfl⟩ | ⟨b, rfl, _⟩
  · exact ⟨rfl, rfl⟩
  · exact ⟨rfl, rfl⟩
theorem store23 {A A0 : ASt} {b lo : Nat} {u v : Value} {tl : Bool} {l : List Nat} (hb : A.get b = some (.row [u] 1 tl)) (hv : SliceU A0 lo v l) : aStore E0 23 (.pointer (some ⟨b, 0, none⟩)) v A = some (A.set b (.row [v] 1 tl)) := by
  obtain ⟨h1, h2⟩ := hv.single
  have h3 : over [u] 0 [v] = some [v] := rfl
  have h4 : singles [v] = true := by unfold singles; rw [h2]; rfl
  simp only [aStore, hb, ti23, t23_size, h1, h3, h4]
  rfl

theorem round_spec {A : ASt} {l P2 lo : Nat} {T0 : Tmps} {v : Value} {li : List Nat} {a : Nat} (hl : A.get l = some (.loop 13 T0 #[7] asC bC .ready none)) (hp : A.get P2 = some (.row [v] 1 false)) (ht : tget T0 2 = .pointer (some ⟨P2, 0, none⟩)) (hs : SliceU A lo v li) (hne : l ≠ P2) (hll : l < lo) (hPl : P2 < lo) (hlo : lo ≤ A.next) (hlen : li.length ≤ 1000) :
    CallT Z Try.prog (.round l) [.int .u64 (a : Int)] A (fun r A' => r = .bool true ∧ A'.get l = some (.loop 13 T0 #[7] asC bC .ready none) ∧ (∃ v', A'.get P2 = some (.row [v'] 1 false) ∧ SliceU A' lo v' (li ++ [a])) ∧ A.next ≤ A'.next ∧ ∀ b, b < lo → b ≠ l → b ≠ P2 → A'.get b = A.get b) := by
  refine CallT.round hl (T' := T0.put 7 (some (.int .u64 (a : Int)))) rfl ?_
  unfold asC
  refine codeW_ok E0_ok E0_ro ?_
  simp only [oneW_next, s_0, s_1, s_2, s_3, s_4, Hands, handsV, resultsV, oneOrTuple, argsT, ev, evs, evPairs, evOpt, closed, flat, nth, aCall, aEnter, notYield, aNilCheck, aLoad, partV, isAggD, aFieldAddr, aField, aExtract, Option.isNone, aBuiltin, cond_true, cond_false, cond_dec, if_true, if_false, List.length_cons, List.length_nil, forall_const, implies_true, List.append_nil, List.cons_append, List.nil_append, eq_self, Nat.reduceEqDiff, Nat.reduceAdd, Nat.reduceMul, Nat.reduceSub, Nat.reduceLT, Nat.reduceLeDiff, Nat.reduceBEq, reduceIte, reduceCtorEq, ti63, t63_desc, t63_size, ti25, t25_desc, ti22, t22_desc, t22_size, ti59, t59_desc, t59_size, ti60, t60_desc, t60_size, ti61, t61_desc, t61_size, ti3, t3_desc, t3_size, ti40, t40_desc, t40_size, ti33, t33_desc, t33_size, ti9, t9_desc, t9_size, wrow_now, wrow_all, eqnil25, fn17, fn26, fn27, fn28, fn29, fn38, fn39, fn12, fn14, fn15]
  refine ⟨_, _, _, _, _, _, _, _, rfl, hl, ?_⟩
  -- the body
  have hset : ∀ b, b ≠ l → (A.set l (.loop 13 T0 #[7] asC bC .busy none)).get b = A.get b := fun b hb => by rw [ASt.get_set, if_neg hb]
  have hs1 : SliceU (A.set l (.loop 13 T0 #[7] asC bC .busy none)) lo v li := by
    rcases hs with h | ⟨b, e, hb, h1, h2⟩
    · exact .inl h
    · exact .inr ⟨b, e, by rw [hset b (by omega)]; exact hb, h1, h2⟩
  have hN : Fr [] (A.set l (.loop 13 T0 #[7] asC bC .busy none)) ((A.set l (.loop 13 T0 #[7] asC bC .busy none)).new (.row [.int .u64 (a : Int)] 1 false)) := ⟨by rw [ASt.next_new]; omega, fun b hb _ => by rw [ASt.get_new, if_neg (by omega)]⟩
  have hAn : (A.set l (.loop 13 T0 #[7] asC bC .busy none)).next = A.next := rfl
  have hP1 : (A.set l (.loop 13 T0 #[7] asC bC .busy none)).get P2 = some (.row [v] 1 false) := by rw [hset _ (Ne.symm hne)]; exact hp
  have hl1 : (A.set l (.loop 13 T0 #[7] asC bC .busy none)).get l = some (.loop 13 T0 #[7] asC bC .busy none) := by rw [ASt.get_set, if_pos rfl]
  generalize A.set l (.loop 13 T0 #[7] asC bC .busy none) = B at hset hs1 hN hAn hP1 hl1 ⊢
  obtain ⟨v', C, happ, hs2, hCn, hCg⟩ := (hs1.fr hN (by simp)).app (x := B.next) (a := a) (tl := false) (by rw [ASt.get_new, if_pos rfl]) (by omega) (by rw [ASt.next_new]; omega)
  have hCP : C.get P2 = some (.row [v] 1 false) := by rw [hCg _ hPl, ASt.get_new, if_neg (by omega)]; exact hP1
  have hst := store23 hCP hs2
  have hBn : B.next + 1 ≤ C.next := by rw [ASt.next_new] at hCn; exact hCn
  unfold bC
  refine codeW_ok E0_ok E0_ro ?_
  simp only [oneW_next, s_0, s_1, s_2, s_3, s_4, Hands, handsV, resultsV, oneOrTuple, argsT, ev, evs, evPairs, evOpt, closed, flat, nth, aCall, aEnter, notYield, aNilCheck, aLoad, partV, isAggD, aFieldAddr, aField, aExtract, Option.isNone, aBuiltin, cond_true, cond_false, cond_dec, if_true, if_false, List.length_cons, List.length_nil, forall_const, implies_true, List.append_nil, List.cons_append, List.nil_append, eq_self, Nat.reduceEqDiff, Nat.reduceAdd, Nat.reduceMul, Nat.reduceSub, Nat.reduceLT, Nat.reduceLeDiff, Nat.reduceBEq, reduceIte, reduceCtorEq, ti63, t63_desc, t63_size, ti25, t25_desc, ti22, t22_desc, t22_size, ti59, t59_desc, t59_size, ti60, t60_desc, t60_size, ti61, t61_desc, t61_size, ti3, t3_desc, t3_size, ti40, t40_desc, t40_size, ti33, t33_desc, t33_size, ti9, t9_desc, t9_size, wrow_now, wrow_all, eqnil25, fn17, fn26, fn27, fn28, fn29, fn38, fn39, fn12, fn14, fn15, ti23, t23_desc, t23_size, ht, hP1, bs23, happ, hst]
  refine ⟨_, _, _, rfl, ?_⟩
  have hgl : (C.set P2 (.row [v'] 1 false)).get l = some (.loop 13 T0 #[7] asC bC .busy none) := by rw [ASt.get_set, if_neg hne, hCg _ hll, ASt.get_new, if_neg (by omega)]; exact hl1
  unfold endR
  rw [hgl]
  refine ⟨_, _, rfl, rfl, by rw [ASt.get_set, if_pos rfl]; rfl, ⟨v', by rw [ASt.get_set, if_neg (Ne.symm hne), ASt.get_set, if_pos rfl], ?_⟩, ?_, fun b hb h1 h2 => ?_⟩
  · rcases hs2 with h | ⟨b, e, hb, h1, h2⟩
    · exact .inl h
    · exact .inr ⟨b, e, by rw [ASt.get_set, if_neg (by omega), ASt.get_set, if_neg (by omega)]; exact hb, h1, h2⟩
  · rw [ASt.next_set, ASt.next_set]; omega
  · rw [ASt.get_set, if_neg h1, ASt.get_set, if_neg h2, hCg _ hb, ASt.get_new, if_neg (by omega), hset _ h1]

theorem un_not {b : Bool} : aUn .not (.bool b) = some (.bool (!b)) := congrArg (fun x => x) rfl
theorem inv_yield {l : Nat} {args : List Value} {A : ASt} : aInvoke E0 (.yield l) args [] A = .enter (.round l) args A := congrArg (fun x => x) rfl

/-- The walk through a map's numbers. -/
theorem iter_spec {A : ASt} {c m l P2 : Nat} {T0 : Tmps} {es : List UE} {ck : Nat} (hc : A.get c = some (.row [.map (some m)] 1 false)) (hm : A.get m = some (.map (uEnts es) ck)) (hok : MapOK es ck) (hlen : es.length ≤ 1000)
    (hl : A.get l = some (.loop 13 T0 #[7] asC bC .ready none)) (hp : A.get P2 = some (.row [.slice none 0 0] 1 false)) (ht : tget T0 2 = .pointer (some ⟨P2, 0, none⟩)) (hne : l ≠ P2) (hml : m ≠ l) (hmP : m ≠ P2) (hll : l < A.next) (hPl : P2 < A.next) (hcl : c < A.next) (hmn : m < A.next) :
    CallW Z Try.prog 42 [.func (.yield l) #[] #[], .pointer (some ⟨c, 0, none⟩)] A (fun _ A' => ∃ (done : List UE) (v : Value), (∀ x ∈ done, x ∈ es) ∧ (∀ x ∈ es, x ∈ done) ∧ done.Nodup ∧ A'.get l = some (.loop 13 T0 #[7] asC bC .ready none) ∧ A'.get P2 = some (.row [v] 1 false) ∧ SliceU A' (A.next + 1) v (done.map (·.2.1)) ∧ A.next ≤ A'.next ∧ ∀ b, b < A.next → b ≠ l → b ≠ P2 → A'.get b = A.get b) := by
  refine CallW.of_code E0_ok E0_ro fn42 rfl (n := 15) rfl (rs := []) rfl (by simp) (codeW_ok E0_ok E0_ro ?_)
  simp only [oneW_next, s_0, s_1, s_2, s_3, s_4, Hands, handsV, resultsV, oneOrTuple, argsT, ev, evs, evPairs, evOpt, closed, flat, nth, aCall, aEnter, notYield, aNilCheck, aLoad, partV, isAggD, aFieldAddr, aField, aExtract, Option.isNone, aBuiltin, cond_true, cond_false, cond_dec, if_true, if_false, List.length_cons, List.length_nil, forall_const, implies_true, List.append_nil, List.cons_append, List.nil_append, eq_self, Nat.reduceEqDiff, Nat.reduceAdd, Nat.reduceMul, Nat.reduceSub, Nat.reduceLT, Nat.reduceLeDiff, Nat.reduceBEq, reduceIte, reduceCtorEq, ti63, t63_desc, t63_size, ti25, t25_desc, ti22, t22_desc, t22_size, ti59, t59_desc, t59_size, ti60, t60_desc, t60_size, ti61, t61_desc, t61_size, ti3, t3_desc, t3_size, ti40, t40_desc, t40_size, ti33, t33_desc, t33_size, ti9, t9_desc, t9_size, wrow_now, wrow_all, eqnil25, fn17, fn26, fn27, fn28, fn29, fn38, fn39, fn12, fn14, fn15, hc, rangeT hm]
  have hAr : ∀ b, b < A.next → (A.new (.miter (some m) ck [] ck)).get b = A.get b := fun b hb => by rw [ASt.get_new, if_neg (by omega)]
  refine CodeW.mono (Q := fun o => ∃ (T' : Tmps) (A' : ASt) (done : List UE) (v : Value), o = .fr ⟨.exit 0, T', A'⟩ ∧ (∀ x ∈ done, x ∈ es) ∧ (∀ x ∈ es, x ∈ done) ∧ done.Nodup ∧ A'.get l = some (.loop 13 T0 #[7] asC bC .ready none) ∧ A'.get P2 = some (.row [v] 1 false) ∧ SliceU A' (A.next + 1) v (done.map (·.2.1)) ∧ A.next + 1 ≤ A'.next ∧ ∀ b, b < A.next → b ≠ l → b ≠ P2 → A'.get b = A.get b) ?_ ?_
  · refine CodeW.mapLoop (it := 6) (r := A.next) (m := m) (ck := ck) (l := es) (J := fun done T A' => tget T 0 = .func (.yield l) #[] #[] ∧ ∃ v, A'.get l = some (.loop 13 T0 #[7] asC bC .ready none) ∧ A'.get P2 = some (.row [v] 1 false) ∧ SliceU A' (A.next + 1) v (done.map (·.2.1)) ∧ A.next + 1 ≤ A'.next ∧ ∀ b, b < A.next → b ≠ l → b ≠ P2 → A'.get b = A.get b) ?_ ?_ ?_
    · rintro done T A1 hi ⟨u0, v, h1, h2, h3, h4, h5⟩
      refine codeW_ok E0_ok E0_ro ?_
      have hit := hi.it
      simp only [oneW_next, s_0, s_1, s_2, s_3, s_4, Hands, handsV, resultsV, oneOrTuple, argsT, ev, evs, evPairs, evOpt, closed, flat, nth, aCall, aEnter, notYield, aNilCheck, aLoad, partV, isAggD, aFieldAddr, aField, aExtract, Option.isNone, aBuiltin, cond_true, cond_false, cond_dec, if_true, if_false, List.length_cons, List.length_nil, forall_const, implies_true, List.append_nil, List.cons_append, List.nil_append, eq_self, Nat.reduceEqDiff, Nat.reduceAdd, Nat.reduceMul, Nat.reduceSub, Nat.reduceLT, Nat.reduceLeDiff, Nat.reduceBEq, reduceIte, reduceCtorEq, ti63, t63_desc, t63_size, ti25, t25_desc, ti22, t22_desc, t22_size, ti59, t59_desc, t59_size, ti60, t60_desc, t60_size, ti61, t61_desc, t61_size, ti3, t3_desc, t3_size, ti40, t40_desc, t40_size, ti33, t33_desc, t33_size, ti9, t9_desc, t9_size, wrow_now, wrow_all, eqnil25, fn17, fn26, fn27, fn28, fn29, fn38, fn39, fn12, fn14, fn15, hit]
      refine nextV_u hok hi.sub hi.iter hi.map (fun x hx hn => ?_) (fun hfin => ?_)
      · have hent := entry_u (A := A1.set A.next (.miter (some m) ck ((done ++ [x]).map (·.2.2)) ck)) (r := A.next) (m := m) hok hx (by rw [ASt.get_set, if_pos rfl]) (by rw [ASt.get_set, if_neg (by omega)]; exact hi.map)
        have hB : ∀ b, (A1.set A.next (.miter (some m) ck ((done ++ [x]).map (·.2.2)) ck)).get b = if b = A.next then some (.miter (some m) ck ((done ++ [x]).map (·.2.2)) ck) else A1.get b := fun b => by rw [ASt.get_set]
        have hBn : (A1.set A.next (.miter (some m) ck ((done ++ [x]).map (·.2.2)) ck)).next = A1.next := rfl
        generalize A1.set A.next (.miter (some m) ck ((done ++ [x]).map (·.2.2)) ck) = B at hent hB hBn ⊢
        have hdl : done.length ≤ 1000 := Nat.le_trans (nodup_le hi.nodup hi.sub) hlen
        have hBl : B.get l = some (.loop 13 T0 #[7] asC bC .ready none) := by rw [hB, if_neg (by omega)]; exact h1
        have hBP : B.get P2 = some (.row [v] 1 false) := by rw [hB, if_neg (by omega)]; exact h2
        have hBs : SliceU B (A.next + 1) v (done.map (·.2.1)) := by
          rcases h3 with h | ⟨b, e, hb, g1, g2⟩
          · exact .inl h
          · exact .inr ⟨b, e, by rw [hB, if_neg (by omega)]; exact hb, g1, by omega⟩
        simp only [oneW_next, s_0, s_1, s_2, s_3, s_4, Hands, handsV, resultsV, oneOrTuple, argsT, ev, evs, evPairs, evOpt, closed, flat, nth, aCall, aEnter, notYield, aNilCheck, aLoad, partV, isAggD, aFieldAddr, aField, aExtract, Option.isNone, aBuiltin, cond_true, cond_false, cond_dec, if_true, if_false, List.length_cons, List.length_nil, forall_const, implies_true, List.append_nil, List.cons_append, List.nil_append, eq_self, Nat.reduceEqDiff, Nat.reduceAdd, Nat.reduceMul, Nat.reduceSub, Nat.reduceLT, Nat.reduceLeDiff, Nat.reduceBEq, reduceIte, reduceCtorEq, ti63, t63_desc, t63_size, ti25, t25_desc, ti22, t22_desc, t22_size, ti59, t59_desc, t59_size, ti60, t60_desc, t60_size, ti61, t61_desc, t61_size, ti3, t3_desc, t3_size, ti40, t40_desc, t40_size, ti33, t33_desc, t33_size, ti9, t9_desc, t9_size, wrow_now, wrow_all, eqnil25, fn17, fn26, fn27, fn28, fn29, fn38, fn39, fn12, fn14, fn15, hit, hent, u0, inv_yield]
        refine CallT.mono (round_spec hBl hBP ht hBs hne (by omega) (by omega) (by omega) (by rw [List.length_map]; exact hdl)) ?_
        rintro _ C ⟨rfl, k1, ⟨v', k2, k3⟩, k4, k5⟩
        simp only [oneW_next, s_0, s_1, s_2, s_3, s_4, Hands, handsV, resultsV, oneOrTuple, argsT, ev, evs, evPairs, evOpt, closed, flat, nth, aCall, aEnter, notYield, aNilCheck, aLoad, partV, isAggD, aFieldAddr, aField, aExtract, Option.isNone, aBuiltin, cond_true, cond_false, cond_dec, if_true, if_false, List.length_cons, List.length_nil, forall_const, implies_true, List.append_nil, List.cons_append, List.nil_append, eq_self, Nat.reduceEqDiff, Nat.reduceAdd, Nat.reduceMul, Nat.reduceSub, Nat.reduceLT, Nat.reduceLeDiff, Nat.reduceBEq, reduceIte, reduceCtorEq, ti63, t63_desc, t63_size, ti25, t25_desc, ti22, t22_desc, t22_size, ti59, t59_desc, t59_size, ti60, t60_desc, t60_size, ti61, t61_desc, t61_size, ti3, t3_desc, t3_size, ti40, t40_desc, t40_size, ti33, t33_desc, t33_size, ti9, t9_desc, t9_size, wrow_now, wrow_all, eqnil25, fn17, fn26, fn27, fn28, fn29, fn38, fn39, fn12, fn14, fn15, un_not]
        refine ⟨x, hx, hn, hi.step hx hn (by simp only [tget_put, Nat.reduceEqDiff, if_false, reduceIte]) ?_ ?_, ?_, v', k1, k2, ?_, by omega, fun b hb hb1 hb2 => ?_⟩
        · rw [k5 _ (by omega) (by omega) (by omega), hB, if_pos rfl]
        · rw [k5 _ (by omega) hml hmP, hB, if_neg (by omega)]
        · first | exact u0 | (simp only [tget_put, Nat.reduceEqDiff, if_false, reduceIte]; exact u0) | rfl
        · rw [List.map_append]; exact k3
        · rw [k5 b (by omega) hb1 hb2, hB, if_neg (by omega)]; exact h5 b hb hb1 hb2
      · simp only [oneW_next, s_0, s_1, s_2, s_3, s_4, Hands, handsV, resultsV, oneOrTuple, argsT, ev, evs, evPairs, evOpt, closed, flat, nth, aCall, aEnter, notYield, aNilCheck, aLoad, partV, isAggD, aFieldAddr, aField, aExtract, Option.isNone, aBuiltin, cond_true, cond_false, cond_dec, if_true, if_false, List.length_cons, List.length_nil, forall_const, implies_true, List.append_nil, List.cons_append, List.nil_append, eq_self, Nat.reduceEqDiff, Nat.reduceAdd, Nat.reduceMul, Nat.reduceSub, Nat.reduceLT, Nat.reduceLeDiff, Nat.reduceBEq, reduceIte, reduceCtorEq, ti63, t63_desc, t63_size, ti25, t25_desc, ti22, t22_desc, t22_size, ti59, t59_desc, t59_size, ti60, t60_desc, t60_size, ti61, t61_desc, t61_size, ti3, t3_desc, t3_size, ti40, t40_desc, t40_size, ti33, t33_desc, t33_size, ti9, t9_desc, t9_size, wrow_now, wrow_all, eqnil25, fn17, fn26, fn27, fn28, fn29, fn38, fn39, fn12, fn14, fn15]
        exact ⟨_, _, done, v, rfl, hi.sub, hfin, hi.nodup, h1, h2, h3, h4, h5⟩
    · refine ⟨by simp only [tget_put, Nat.reduceEqDiff, if_false, if_true, reduceIte], by rw [ASt.get_new, if_pos rfl]; rfl, by rw [hAr _ hmn]; exact hm, by simp, .nil⟩
    · refine ⟨by simp only [tget_put, Nat.reduceEqDiff, if_false, if_true, reduceIte], .slice none 0 0, by rw [hAr _ hll]; exact hl, by rw [hAr _ hPl]; exact hp, .inl ⟨rfl, rfl⟩, by rw [ASt.next_new]; omega, fun b hb _ _ => hAr b hb⟩
  · rintro o ⟨T', A', done, v, rfl, k1, k2, knd, k3, k4, k5, k6, k7⟩
    simp only [oneW_next, s_0, s_1, s_2, s_3, s_4, Hands, handsV, resultsV, oneOrTuple, argsT, ev, evs, evPairs, evOpt, closed, flat, nth, aCall, aEnter, notYield, aNilCheck, aLoad, partV, isAggD, aFieldAddr, aField, aExtract, Option.isNone, aBuiltin, cond_true, cond_false, cond_dec, if_true, if_false, List.length_cons, List.length_nil, forall_const, implies_true, List.append_nil, List.cons_append, List.nil_append, eq_self, Nat.reduceEqDiff, Nat.reduceAdd, Nat.reduceMul, Nat.reduceSub, Nat.reduceLT, Nat.reduceLeDiff, Nat.reduceBEq, reduceIte, reduceCtorEq, ti63, t63_desc, t63_size, ti25, t25_desc, ti22, t22_desc, t22_size, ti59, t59_desc, t59_size, ti60, t60_desc, t60_size, ti61, t61_desc, t61_size, ti3, t3_desc, t3_size, ti40, t40_desc, t40_size, ti33, t33_desc, t33_size, ti9, t9_desc, t9_size, wrow_now, wrow_all, eqnil25, fn17, fn26, fn27, fn28, fn29, fn38, fn39, fn12, fn14, fn15]
    exact ⟨done, v, k1, k2, knd, k3, k4, k5, by omega, k7⟩
end Go.Proofs.Ytpmpclieclcbdaa

/- The least number of a map. -/
namespace Go.Proofs.Ytpmpclieclcbdaa
open Go Go.AE Go.Sort

variable {Z : Go.AE.Road}
set_option maxRecDepth 10000
set_option maxHeartbeats 4000000

theorem box23 {v : Value} (h : v = .slice none 0 0) : aBox E0 23 v = some (.row [v] 1 false, ptrTo) := by
  subst h
  simp only [aBox, ti23, t23_size]; rfl
theorem box59 {m : Nat} : aBox E0 59 (.map (some m)) = some (.row [.map (some m)] 1 false, ptrTo) := by
  simp only [aBox, ti59, t59_size]; rfl

/-- What was gathered. -/
def Gathered (es : List UE) (A : ASt) (v : Value) (A' : ASt) : Prop := ∃ (done : List UE) (lo : Nat), (∀ x ∈ done, x ∈ es) ∧ (∀ x ∈ es, x ∈ done) ∧ done.Nodup ∧ SliceU A' lo v (done.map (·.2.1)) ∧ A.next ≤ lo ∧ Fr [] A A'

theorem append_spec {A : ASt} {c m : Nat} {es : List UE} {ck : Nat} (hc : A.get c = some (.row [.map (some m)] 1 false)) (hm : A.get m = some (.map (uEnts es) ck)) (hok : MapOK es ck) (hlen : es.length ≤ 1000) (hcl : c < A.next) (hmn : m < A.next) :
    CallW Z Try.prog 41 [.slice none 0 0, .func (.func 42) #[] #[.pointer (some ⟨c, 0, none⟩)]] A (Gathered es A) := by
  refine CallW.of_code E0_ok E0_ro fn41 rfl (n := 13) rfl (rs := [.tmp 4]) rfl (by simp) (codeW_ok E0_ok E0_ro ?_)
  simp only [oneW_next, s_0, s_1, s_2, s_3, s_4, Hands, handsV, resultsV, oneOrTuple, argsT, ev, evs, evPairs, evOpt, closed, flat, nth, aCall, aEnter, notYield, aNilCheck, aLoad, partV, isAggD, aFieldAddr, aField, aExtract, Option.isNone, aBuiltin, cond_true, cond_false, cond_dec, if_true, if_false, List.length_cons, List.length_nil, forall_const, implies_true, List.append_nil, List.cons_append, List.nil_append, eq_self, Nat.reduceEqDiff, Nat.reduceAdd, Nat.reduceMul, Nat.reduceSub, Nat.reduceLT, Nat.reduceLeDiff, Nat.reduceBEq, reduceIte, reduceCtorEq, ti63, t63_desc, t63_size, ti25, t25_desc, ti22, t22_desc, t22_size, ti59, t59_desc, t59_size, ti60, t60_desc, t60_size, ti61, t61_desc, t61_size, ti3, t3_desc, t3_size, ti40, t40_desc, t40_size, ti33, t33_desc, t33_size, ti9, t9_desc, t9_size, wrow_now, wrow_all, eqnil25, fn17, fn26, fn27, fn28, fn29, fn38, fn39, fn12, fn14, fn15, box23, ptrTo, c_range]
  have hB : ∀ b, b < A.next → (A.new (.row [.slice none 0 0] 1 false)).get b = A.get b := fun b hb => by rw [ASt.get_new, if_neg (by omega)]
  have hBP : (A.new (.row [.slice none 0 0] 1 false)).get A.next = some (.row [.slice none 0 0] 1 false) := by rw [ASt.get_new, if_pos rfl]
  have hBn : (A.new (.row [.slice none 0 0] 1 false)).next = A.next + 1 := by rw [ASt.next_new]
  generalize A.new (.row [.slice none 0 0] 1 false) = B at hB hBP hBn ⊢
  generalize hT : Tr.put _ 6 _ = T
  have t6 : tget T 6 = .func (.func 42) #[] #[.pointer (some ⟨c, 0, none⟩)] := by rw [← hT]; simp only [tget_put, Nat.reduceEqDiff, if_false, if_true, reduceIte]
  have t2 : tget T 2 = .pointer (some ⟨A.next, 0, none⟩) := by rw [← hT]; simp only [tget_put, Nat.reduceEqDiff, if_false, if_true, reduceIte]
  clear hT
  have hC : ∀ b, b < B.next → (B.new (.loop 13 T #[7] asC bC .ready none)).get b = B.get b := fun b hb => by rw [ASt.get_new, if_neg (by omega)]
  have hCl : (B.new (.loop 13 T #[7] asC bC .ready none)).get B.next = some (.loop 13 T #[7] asC bC .ready none) := by rw [ASt.get_new, if_pos rfl]
  have hCn : (B.new (.loop 13 T #[7] asC bC .ready none)).next = B.next + 1 := by rw [ASt.next_new]
  have hit := iter_spec (Z := Z) (A := B.new (.loop 13 T #[7] asC bC .ready none)) (c := c) (m := m) (l := B.next) (P2 := A.next) (T0 := T) (es := es) (ck := ck) (by rw [hC _ (by omega), hB _ hcl]; exact hc) (by rw [hC _ (by omega), hB _ hmn]; exact hm) hok hlen hCl (by rw [hC _ (by omega)]; exact hBP) t2 (by omega) (by omega) (by omega) (by omega) (by omega) (by omega) (by omega)
  refine CodeW.rangeFn E0_ok E0_ro (f := 42) (first := #[]) (captured := #[.pointer (some ⟨c, 0, none⟩)]) (by simp only [ev, t6]) rfl (by intro args A; simp only [aEnter, fn42]) ?_
  refine CallT.mono (CallT.of_call hit) ?_
  rintro r D ⟨done, v, h1, h2, hnd, h3, h4, h5, h6, h7⟩
  refine ⟨_, _, _, _, _, _, h3, rfl, ?_⟩
  have h4' : (D.set B.next (.loop 13 T #[7] asC bC .exhausted none)).get A.next = some (.row [v] 1 false) := by rw [ASt.get_set, if_neg (by omega)]; exact h4
  have h5' : SliceU (D.set B.next (.loop 13 T #[7] asC bC .exhausted none)) (B.next + 1 + 1) v (done.map (·.2.1)) := by
    rw [hCn] at h5
    rcases h5 with h | ⟨b, e, hb, g1, g2⟩
    · exact .inl h
    · exact .inr ⟨b, e, by rw [ASt.get_set, if_neg (by omega)]; exact hb, g1, g2⟩
  have hfr : Fr [] A (D.set B.next (.loop 13 T #[7] asC bC .exhausted none)) := ⟨by rw [ASt.next_set]; omega, fun b hb _ => by rw [ASt.get_set, if_neg (by omega), h7 b (by omega) (by omega) (by omega), hC _ (by omega), hB _ hb]⟩
  generalize D.set B.next (.loop 13 T #[7] asC bC .exhausted none) = F at h4' h5' hfr ⊢
  simp only [oneW_next, s_0, s_1, s_2, s_3, s_4, Hands, handsV, resultsV, oneOrTuple, argsT, ev, evs, evPairs, evOpt, closed, flat, nth, aCall, aEnter, notYield, aNilCheck, aLoad, partV, isAggD, aFieldAddr, aField, aExtract, Option.isNone, aBuiltin, cond_true, cond_false, cond_dec, if_true, if_false, List.length_cons, List.length_nil, forall_const, implies_true, List.append_nil, List.cons_append, List.nil_append, eq_self, Nat.reduceEqDiff, Nat.reduceAdd, Nat.reduceMul, Nat.reduceSub, Nat.reduceLT, Nat.reduceLeDiff, Nat.reduceBEq, reduceIte, reduceCtorEq, ti63, t63_desc, t63_size, ti25, t25_desc, ti22, t22_desc, t22_size, ti59, t59_desc, t59_size, ti60, t60_desc, t60_size, ti61, t61_desc, t61_size, ti3, t3_desc, t3_size, ti40, t40_desc, t40_size, ti33, t33_desc, t33_size, ti9, t9_desc, t9_size, wrow_now, wrow_all, eqnil25, fn17, fn26, fn27, fn28, fn29, fn38, fn39, fn12, fn14, fn15, ti23, t23_desc, t23_size, t2, h4']
  exact ⟨done, _, h1, h2, hnd, h5', by omega, hfr⟩

theorem collect_spec {A : ASt} {c m : Nat} {es : List UE} {ck : Nat} (hc : A.get c = some (.row [.map (some m)] 1 false)) (hm : A.get m = some (.map (uEnts es) ck)) (hok : MapOK es ck) (hlen : es.length ≤ 1000) (hcl : c < A.next) (hmn : m < A.next) :
    CallW Z Try.prog 35 [.func (.func 42) #[] #[.pointer (some ⟨c, 0, none⟩)]] A (Gathered es A) := by
  refine CallW.of_code E0_ok E0_ro fn35 rfl (n := 5) rfl (rs := [.tmp 2]) rfl (by simp) (codeW_ok E0_ok E0_ro ?_)
  simp only [oneW_next, s_0, s_1, s_2, s_3, s_4, Hands, handsV, resultsV, oneOrTuple, argsT, ev, evs, evPairs, evOpt, closed, flat, nth, aCall, aEnter, notYield, aNilCheck, aLoad, partV, isAggD, aFieldAddr, aField, aExtract, Option.isNone, aBuiltin, cond_true, cond_false, cond_dec, if_true, if_false, List.length_cons, List.length_nil, forall_const, implies_true, List.append_nil, List.cons_append, List.nil_append, eq_self, Nat.reduceEqDiff, Nat.reduceAdd, Nat.reduceMul, Nat.reduceSub, Nat.reduceLT, Nat.reduceLeDiff, Nat.reduceBEq, reduceIte, reduceCtorEq, ti63, t63_desc, t63_size, ti25, t25_desc, ti22, t22_desc, t22_size, ti59, t59_desc, t59_size, ti60, t60_desc, t60_size, ti61, t61_desc, t61_size, ti3, t3_desc, t3_size, ti40, t40_desc, t40_size, ti33, t33_desc, t33_size, ti9, t9_desc, t9_size, wrow_now, wrow_all, eqnil25, fn17, fn26, fn27, fn28, fn29, fn38, fn39, fn12, fn14, fn15, fn41]
  refine CallT.mono (append_spec hc hm hok hlen hcl hmn) ?_
  intro v A' h
  simp only [oneW_next, s_0, s_1, s_2, s_3, s_4, Hands, handsV, resultsV, oneOrTuple, argsT, ev, evs, evPairs, evOpt, closed, flat, nth, aCall, aEnter, notYield, aNilCheck, aLoad, partV, isAggD, aFieldAddr, aField, aExtract, Option.isNone, aBuiltin, cond_true, cond_false, cond_dec, if_true, if_false, List.length_cons, List.length_nil, forall_const, implies_true, List.append_nil, List.cons_append, List.nil_append, eq_self, Nat.reduceEqDiff, Nat.reduceAdd, Nat.reduceMul, Nat.reduceSub, Nat.reduceLT, Nat.reduceLeDiff, Nat.reduceBEq, reduceIte, reduceCtorEq, ti63, t63_desc, t63_size, ti25, t25_desc, ti22, t22_desc, t22_size, ti59, t59_desc, t59_size, ti60, t60_desc, t60_size, ti61, t61_desc, t61_size, ti3, t3_desc, t3_size, ti40, t40_desc, t40_size, ti33, t33_desc, t33_size, ti9, t9_desc, t9_size, wrow_now, wrow_all, eqnil25, fn17, fn26, fn27, fn28, fn29, fn38, fn39, fn12, fn14, fn15]
  exact h
theorem values_spec {A : ASt} {m : Nat} : CallW Z Try.prog 36 [.map (some m)] A (fun v A' => v = .func (.func 42) #[] #[.pointer (some ⟨A.next, 0, none⟩)] ∧ A' = A.new (.row [.map (some m)] 1 false)) := by
  refine CallW.of_code E0_ok E0_ro fn36 rfl (n := 4) rfl (rs := [.tmp 2]) rfl (by simp) (codeW_ok E0_ok E0_ro ?_)
  simp only [oneW_next, s_0, s_1, s_2, s_3, s_4, Hands, handsV, resultsV, oneOrTuple, argsT, ev, evs, evPairs, evOpt, closed, flat, nth, aCall, aEnter, notYield, aNilCheck, aLoad, partV, isAggD, aFieldAddr, aField, aExtract, Option.isNone, aBuiltin, cond_true, cond_false, cond_dec, if_true, if_false, List.length_cons, List.length_nil, forall_const, implies_true, List.append_nil, List.cons_append, List.nil_append, eq_self, Nat.reduceEqDiff, Nat.reduceAdd, Nat.reduceMul, Nat.reduceSub, Nat.reduceLT, Nat.reduceLeDiff, Nat.reduceBEq, reduceIte, reduceCtorEq, ti63, t63_desc, t63_size, ti25, t25_desc, ti22, t22_desc, t22_size, ti59, t59_desc, t59_size, ti60, t60_desc, t60_size, ti61, t61_desc, t61_size, ti3, t3_desc, t3_size, ti40, t40_desc, t40_size, ti33, t33_desc, t33_size, ti9, t9_desc, t9_size, wrow_now, wrow_all, eqnil25, fn17, fn26, fn27, fn28, fn29, fn38, fn39, fn12, fn14, fn15, box59, ptrTo]

theorem min2 {a b : Nat} : minMax false [.int .u64 (a : Int), .int .u64 (b : Int)] = some (.int .u64 ((if b < a then b else a : Nat) : Int)) := by
  show some (Value.int .u64 (if (b : Int) < (a : Int) then (b : Int) else (a : Int))) = _
  by_cases h : b < a
  · rw [if_pos h, if_pos (by omega)]
  · rw [if_neg h, if_neg (by omega)]
theorem min_spec {A : ASt} {lo : Nat} {v : Value} {l : List Nat} (hs : SliceU A lo v l) (hne : 0 < l.length) (hlen : l.length ≤ 1000) :
    CallW Z Try.prog 34 [v] A (fun r A' => ∃ t, r = .int .u64 ((t : Nat) : Int) ∧ t ∈ l ∧ (∀ x ∈ l, t ≤ x) ∧ A' = A) := by
  refine CallW.of_code E0_ok E0_ro fn34 rfl (n := 25) rfl (rs := [.tmp 2]) rfl (by simp) (codeW_ok E0_ok E0_ro ?_)
  have hlv : ∀ A', aLen E0 23 v A' = some (.int .i64 (l.length : Int)) := fun _ => hs.len
  have d1 : ((l.length : Int) < 1) = False := eq_false (by omega)
  have hx0 : l[0]? = some l[0] := List.getElem?_eq_getElem _
  generalize l[0] = x0 at hx0
  obtain ⟨b8, hv8, hix, hb8, _, _⟩ := hs.ix hne
  have hix0 : aIndexAddr E0 23 v (.int .i64 0) = some (.pointer (some ⟨b8, 0, none⟩)) := hix
  have g0 := ucells_nth hx0
  simp only [oneW_next, s_0, s_1, s_2, s_3, s_4, Hands, handsV, resultsV, oneOrTuple, argsT, ev, evs, evPairs, evOpt, closed, flat, nth, aCall, aEnter, notYield, aNilCheck, aLoad, partV, isAggD, aFieldAddr, aField, aExtract, Option.isNone, aBuiltin, cond_true, cond_false, cond_dec, if_true, if_false, List.length_cons, List.length_nil, forall_const, implies_true, List.append_nil, List.cons_append, List.nil_append, eq_self, Nat.reduceEqDiff, Nat.reduceAdd, Nat.reduceMul, Nat.reduceSub, Nat.reduceLT, Nat.reduceLeDiff, Nat.reduceBEq, reduceIte, reduceCtorEq, ti63, t63_desc, t63_size, ti25, t25_desc, ti22, t22_desc, t22_size, ti59, t59_desc, t59_size, ti60, t60_desc, t60_size, ti61, t61_desc, t61_size, ti3, t3_desc, t3_size, ti40, t40_desc, t40_size, ti33, t33_desc, t33_size, ti9, t9_desc, t9_size, wrow_now, wrow_all, eqnil25, fn17, fn26, fn27, fn28, fn29, fn38, fn39, fn12, fn14, fn15, hlv, d1, hix0, hb8, g0]
  refine CodeW.mono (Q := fun o => ∃ T' t, o = .fr ⟨.exit 0, T', A⟩ ∧ tget T' 3 = .int .u64 ((t : Nat) : Int) ∧ t ∈ l ∧ ∀ x ∈ l, t ≤ x) ?_ ?_
  · refine CodeW.loopR (k := l.length - 1) (fun k T A' => ∃ i t, k = l.length - i ∧ i ≤ l.length ∧ tget T 4 = .int .i64 ((i : Nat) : Int) ∧ tget T 0 = v ∧ tget T 3 = .int .u64 ((t : Nat) : Int) ∧ t ∈ l ∧ (∀ j x, j < i → l[j]? = some x → t ≤ x) ∧ A' = A) ?_ ⟨1, x0, rfl, by omega, ?_, ?_, ?_, List.mem_of_getElem? hx0, fun j x hj hx => ?_, rfl⟩
    · rintro k T A1 ⟨i, t, rfl, hi, u4, u0, u3, ht, hall, rfl⟩
      refine codeW_ok E0_ok E0_ro ?_
      by_cases e1 : i < l.length
      · have d2 : ((i : Int) < (l.length : Int)) = True := eq_true (by omega)
        have hx : l[i]? = some l[i] := List.getElem?_eq_getElem _
        have hxm : l[i] ∈ l := List.getElem_mem _
        generalize l[i] = x at hx hxm
        obtain ⟨b8, hv8, hix, hb8, _, _⟩ := hs.ix e1
        have g1 := ucells_nth hx
        simp only [oneW_next, s_0, s_1, s_2, s_3, s_4, Hands, handsV, resultsV, oneOrTuple, argsT, ev, evs, evPairs, evOpt, closed, flat, nth, aCall, aEnter, notYield, aNilCheck, aLoad, partV, isAggD, aFieldAddr, aField, aExtract, Option.isNone, aBuiltin, cond_true, cond_false, cond_dec, if_true, if_false, List.length_cons, List.length_nil, forall_const, implies_true, List.append_nil, List.cons_append, List.nil_append, eq_self, Nat.reduceEqDiff, Nat.reduceAdd, Nat.reduceMul, Nat.reduceSub, Nat.reduceLT, Nat.reduceLeDiff, Nat.reduceBEq, reduceIte, reduceCtorEq, ti63, t63_desc, t63_size, ti25, t25_desc, ti22, t22_desc, t22_size, ti59, t59_desc, t59_size, ti60, t60_desc, t60_size, ti61, t61_desc, t61_size, ti3, t3_desc, t3_size, ti40, t40_desc, t40_size, ti33, t33_desc, t33_size, ti9, t9_desc, t9_size, wrow_now, wrow_all, eqnil25, fn17, fn26, fn27, fn28, fn29, fn38, fn39, fn12, fn14, fn15, hlv, d2, u4, u0, u3, hix, hb8, g1, min2, wrap_succ (show i < 1000000 by omega)]
        refine ⟨l.length - (i + 1), by omega, i + 1, if x < t then x else t, rfl, by omega, rfl, rfl, ?_, fun j y hj hy => ?_⟩
        · split
          · exact hxm
          · exact ht
        · by_cases hji : j = i
          · subst hji
            rw [hx] at hy
            cases hy
            split <;> omega
          · have := hall j y (by omega) hy
            split <;> omega
      · have d2 : ((i : Int) < (l.length : Int)) = False := eq_false (by omega)
        simp only [oneW_next, s_0, s_1, s_2, s_3, s_4, Hands, handsV, resultsV, oneOrTuple, argsT, ev, evs, evPairs, evOpt, closed, flat, nth, aCall, aEnter, notYield, aNilCheck, aLoad, partV, isAggD, aFieldAddr, aField, aExtract, Option.isNone, aBuiltin, cond_true, cond_false, cond_dec, if_true, if_false, List.length_cons, List.length_nil, forall_const, implies_true, List.append_nil, List.cons_append, List.nil_append, eq_self, Nat.reduceEqDiff, Nat.reduceAdd, Nat.reduceMul, Nat.reduceSub, Nat.reduceLT, Nat.reduceLeDiff, Nat.reduceBEq, reduceIte, reduceCtorEq, ti63, t63_desc, t63_size, ti25, t25_desc, ti22, t22_desc, t22_size, ti59, t59_desc, t59_size, ti60, t60_desc, t60_size, ti61, t61_desc, t61_size, ti3, t3_desc, t3_size, ti40, t40_desc, t40_size, ti33, t33_desc, t33_size, ti9, t9_desc, t9_size, wrow_now, wrow_all, eqnil25, fn17, fn26, fn27, fn28, fn29, fn38, fn39, fn12, fn14, fn15, hlv, d2, u4, u0]
        refine ⟨_, t, rfl, by simp only [tget_put, Nat.reduceEqDiff, if_false, if_true, reduceIte, u3], ht, fun x hx => ?_⟩
        obtain ⟨j, hj⟩ := List.getElem?_of_mem hx
        exact hall j x (by have := lt_of_get hj; omega) hj
    · simp only [tget_put, Nat.reduceEqDiff, if_false, if_true, reduceIte, and_self]; rfl
    · simp only [tget_put, Nat.reduceEqDiff, if_false, if_true, reduceIte, and_self]
    · simp only [tget_put, Nat.reduceEqDiff, if_false, if_true, reduceIte, and_self]
    · have : j = 0 := by omega
      subst this
      rw [hx0] at hx
      cases hx
      exact Nat.le_refl _
  · rintro o ⟨T', t, rfl, u3, h1, h2⟩
    simp only [oneW_next, s_0, s_1, s_2, s_3, s_4, Hands, handsV, resultsV, oneOrTuple, argsT, ev, evs, evPairs, evOpt, closed, flat, nth, aCall, aEnter, notYield, aNilCheck, aLoad, partV, isAggD, aFieldAddr, aField, aExtract, Option.isNone, aBuiltin, cond_true, cond_false, cond_dec, if_true, if_false, List.length_cons, List.length_nil, forall_const, implies_true, List.append_nil, List.cons_append, List.nil_append, eq_self, Nat.reduceEqDiff, Nat.reduceAdd, Nat.reduceMul, Nat.reduceSub, Nat.reduceLT, Nat.reduceLeDiff, Nat.reduceBEq, reduceIte, reduceCtorEq, ti63, t63_desc, t63_size, ti25, t25_desc, ti22, t22_desc, t22_size, ti59, t59_desc, t59_size, ti60, t60_desc, t60_size, ti61, t61_desc, t61_size, ti3, t3_desc, t3_size, ti40, t40_desc, t40_size, ti33, t33_desc, t33_size, ti9, t9_desc, t9_size, wrow_now, wrow_all, eqnil25, fn17, fn26, fn27, fn28, fn29, fn38, fn39, fn12, fn14, fn15, u3]
    exact ⟨t, rfl, h1, h2⟩
end Go.Proofs.Ytpmpclieclcbdaa

/- The soonest deadline. -/
namespace Go.Proofs.Ytpmpclieclcbdaa
open Go Go.AE Go.Sort

variable {Z : Go.AE.Road}
set_option maxRecDepth 10000
set_option maxHeartbeats 4000000

theorem Few.at2 {M : TM} (h : Few M) (now i : Nat) : Few (M.at_ now i) := by
  obtain ⟨l, h1, h2⟩ := h
  refine ⟨l, h1, fun k hk => h2 k ?_⟩
  unfold TM.at_ at hk
  cases hm : M k with
  | none => rw [hm] at hk; cases hk
  | some a => rfl

/-- A map's numbers, gathered, and the least of them. -/
theorem least_of {D : TM} {es : List UE} {ck : Nat} (hok : MapOK es ck) (hg : ∀ k, uget es k = D k) {done : List UE} (h1 : ∀ x ∈ done, x ∈ es) (h2 : ∀ x ∈ es, x ∈ done) {t : Nat} (ht : t ∈ done.map (·.2.1)) (hall : ∀ x ∈ done.map (·.2.1), t ≤ x) : (∃ k, D k = some t) ∧ ∀ k a, D k = some a → t ≤ a := by
  constructor
  · obtain ⟨x, hx, rfl⟩ := List.mem_map.1 ht
    exact ⟨x.1, by rw [← hg]; exact uget_mem hok.keys (h1 x hx)⟩
  · intro k a ha
    rw [← hg] at ha
    obtain ⟨b, hb⟩ := uget_some ha
    exact hall a (List.mem_map.2 ⟨_, h2 _ hb, rfl⟩)

/-- The least of the first place that is not empty is the least of all. -/
theorem least_all {A : ASt} {W all now i t : Nat} {ms : List Nat} {M : TM} (h : WheelAt A W all ms now M) (he : ∀ j, j < i → ∀ k, M.at_ now j k = none) (ht : ∃ k, M.at_ now i k = some t) (hall : ∀ k a, M.at_ now i k = some a → t ≤ a) : (∃ k, M k = some t) ∧ ∀ k a, M k = some a → t ≤ a := by
  obtain ⟨k, hk⟩ := ht
  obtain ⟨g1, g2⟩ := Option.filter_eq_some_iff.1 hk
  simp only [decide_eq_true_eq] at g2
  refine ⟨⟨k, g1⟩, fun k' a ha => ?_⟩
  by_cases h1 : plc now a = i
  · exact hall k' a (Option.filter_eq_some_iff.2 ⟨ha, by simpa using h1⟩)
  · by_cases h2 : plc now a < i
    · have := he _ h2 k'
      have h3 : M.at_ now (plc now a) k' = some a := Option.filter_eq_some_iff.2 ⟨ha, by simp⟩
      rw [h3] at this
      cases this
    · exact Nat.le_of_lt (plc_lt_lt h.nowlt (h.lt _ _ g1) (h.lt _ _ ha) (h.gt _ _ g1) (h.gt _ _ ha) (by omega))

theorem wrow_cut {now all L : Nat} {ms : List Nat} (hm : ms.length = 65) (hL : L < 4) : cut (wrow now all ms) (2 + L * 16) 16 = some (((ms.drop (L * 16)).take 16).map fun m => Value.map (some m)) := by
  unfold cut
  have e : (wrow now all ms).drop (2 + L * 16) = (ms.map fun m => Value.map (some m)).drop (L * 16) := by
    unfold wrow
    rw [Nat.add_comm 2]
    rfl
  rw [e]
  have h1 : ((ms.map fun m => Value.map (some m)).drop (L * 16)).take 16 = ((ms.drop (L * 16)).take 16).map fun m => Value.map (some m) := by rw [← List.map_drop, ← List.map_take]
  rw [h1]
  have h2 : Nat.beq (((ms.drop (L * 16)).take 16).map fun m => Value.map (some m)).length 16 = true := by
    rw [nbeq]
    simp [hm]
    omega
  show (bif Nat.beq (((ms.drop (L * 16)).take 16).map fun m => Value.map (some m)).length 16 then some (((ms.drop (L * 16)).take 16).map fun m => Value.map (some m)) else none) = _
  rw [h2]
  rfl
theorem idx60 {L j m : Nat} {ms : List Nat} (hj : j < 16) (hm : ms[16 * L + j]? = some m) : aIndex E0 60 (.agg (((ms.drop (L * 16)).take 16).map fun m => Value.map (some m)).toArray) (.int .i64 (j : Int)) = some (.map (some m)) := by
  have hb : Nat.blt j 16 = true := Nat.ble_eq_true_of_le hj
  have hn : nth (((ms.drop (L * 16)).take 16).map fun m => Value.map (some m)) (j * 1) = some (.map (some m)) := by
    rw [Nat.mul_one]
    refine nth_map (f := fun m => Value.map (some m)) ?_
    rw [List.getElem?_take_of_lt hj, List.getElem?_drop, show L * 16 + j = 16 * L + j by omega]
    exact hm
  have e : aIndex E0 60 (.agg (((ms.drop (L * 16)).take 16).map fun m => Value.map (some m)).toArray) (.int .i64 (j : Int)) = (match E0.ti 60 with
    | some i => match i.desc with
      | .array len el => match E0.ti el with
        | some jj => cond (Nat.blt j len) (partV E0 el (((ms.drop (L * 16)).take 16).map fun m => Value.map (some m)) (j * jj.size)) none
        | none => none
      | _ => none
    | none => none) := by
    simp only [aIndex, ti60, t60_desc, ti59]
  rw [e]
  simp only [ti60, t60_desc, ti59, t59_size, hb, cond_true, partV, t59_desc, isAggD, cond_false]
  exact hn

/-- What Soonest tells. -/
def SoonV (M : TM) (A : ASt) (v : Value) (A' : ASt) : Prop := Fr [] A A' ∧ ((v = .tuple #[.int .u64 0, .bool false] ∧ ∀ k, M k = none) ∨ ∃ t : Nat, v = .tuple #[.int .u64 (t : Int), .bool true] ∧ (∃ k, M k = some t) ∧ ∀ k a, M k = some a → t ≤ a)
theorem soonest_spec {A : ASt} {W all now : Nat} {ms : List Nat} {M : TM} (h : WheelAt A W all ms now M) (hF : Few M) : CallW Z Try.prog 22 [.pointer (some ⟨W, 0, none⟩)] A (SoonV M A) := by
  refine CallW.of_code E0_ok E0_ro fn22 rfl (n := 38) rfl (rs := [.tmp 2, .tmp 3]) rfl (by simp) (codeW_ok E0_ok E0_ro ?_)
  simp only [oneW_next, s_0, s_1, s_2, s_3, s_4, Hands, handsV, resultsV, oneOrTuple, argsT, ev, evs, evPairs, evOpt, closed, flat, nth, aCall, aEnter, notYield, aNilCheck, aLoad, partV, isAggD, aFieldAddr, aField, aExtract, Option.isNone, aBuiltin, cond_true, cond_false, cond_dec, if_true, if_false, List.length_cons, List.length_nil, forall_const, implies_true, List.append_nil, List.cons_append, List.nil_append, eq_self, Nat.reduceEqDiff, Nat.reduceAdd, Nat.reduceMul, Nat.reduceSub, Nat.reduceLT, Nat.reduceLeDiff, Nat.reduceBEq, reduceIte, reduceCtorEq, ti63, t63_desc, t63_size, ti25, t25_desc, ti22, t22_desc, t22_size, ti59, t59_desc, t59_size, ti60, t60_desc, t60_size, ti61, t61_desc, t61_size, ti3, t3_desc, t3_size, ti40, t40_desc, t40_size, ti33, t33_desc, t33_size, ti9, t9_desc, t9_size, wrow_now, wrow_all, eqnil25, fn17, fn26, fn27, fn28, fn29, fn38, fn39, fn12, fn14, fn15]
  refine CallT.mono (len_spec h) ?_
  rintro _ A ⟨⟨c, rfl, hc⟩, rfl⟩
  have hW := h.row
  by_cases hc0 : c = 0
  · subst hc0
    have d1 : (((0 : Nat) : Int) = 0) = True := eq_true rfl
    simp only [oneW_next, s_0, s_1, s_2, s_3, s_4, Hands, handsV, resultsV, oneOrTuple, argsT, ev, evs, evPairs, evOpt, closed, flat, nth, aCall, aEnter, notYield, aNilCheck, aLoad, partV, isAggD, aFieldAddr, aField, aExtract, Option.isNone, aBuiltin, cond_true, cond_false, cond_dec, if_true, if_false, List.length_cons, List.length_nil, forall_const, implies_true, List.append_nil, List.cons_append, List.nil_append, eq_self, Nat.reduceEqDiff, Nat.reduceAdd, Nat.reduceMul, Nat.reduceSub, Nat.reduceLT, Nat.reduceLeDiff, Nat.reduceBEq, reduceIte, reduceCtorEq, ti63, t63_desc, t63_size, ti25, t25_desc, ti22, t22_desc, t22_size, ti59, t59_desc, t59_size, ti60, t60_desc, t60_size, ti61, t61_desc, t61_size, ti3, t3_desc, t3_size, ti40, t40_desc, t40_size, ti33, t33_desc, t33_size, ti9, t9_desc, t9_size, wrow_now, wrow_all, eqnil25, fn17, fn26, fn27, fn28, fn29, fn38, fn39, fn12, fn14, fn15, d1]
    refine ⟨.refl _ _, .inl ⟨rfl, fun k => ?_⟩⟩
    obtain ⟨l, _, g2, g3⟩ := hc
    have : l = [] := List.eq_nil_of_length_eq_zero g3
    subst this
    cases hk : M k with
    | none => rfl
    | some a => exact absurd ((g2 k).2 (by rw [hk]; rfl)) (by simp)
  have d1 : ((c : Int) = 0) = False := eq_false (by omega)
  simp only [oneW_next, s_0, s_1, s_2, s_3, s_4, Hands, handsV, resultsV, oneOrTuple, argsT, ev, evs, evPairs, evOpt, closed, flat, nth, aCall, aEnter, notYield, aNilCheck, aLoad, partV, isAggD, aFieldAddr, aField, aExtract, Option.isNone, aBuiltin, cond_true, cond_false, cond_dec, if_true, if_false, List.length_cons, List.length_nil, forall_const, implies_true, List.append_nil, List.cons_append, List.nil_append, eq_self, Nat.reduceEqDiff, Nat.reduceAdd, Nat.reduceMul, Nat.reduceSub, Nat.reduceLT, Nat.reduceLeDiff, Nat.reduceBEq, reduceIte, reduceCtorEq, ti63, t63_desc, t63_size, ti25, t25_desc, ti22, t22_desc, t22_size, ti59, t59_desc, t59_size, ti60, t60_desc, t60_size, ti61, t61_desc, t61_size, ti3, t3_desc, t3_size, ti40, t40_desc, t40_size, ti33, t33_desc, t33_size, ti9, t9_desc, t9_size, wrow_now, wrow_all, eqnil25, fn17, fn26, fn27, fn28, fn29, fn38, fn39, fn12, fn14, fn15, d1]
  refine CodeW.mono (Q := fun o => (∃ T', o = .fr ⟨.exit 0, T', A⟩ ∧ tget T' 0 = .pointer (some ⟨W, 0, none⟩) ∧ ∀ j, j < 64 → ∀ k, M.at_ now j k = none) ∨ ∃ T' A' t, o = .fr ⟨.ret, T', A'⟩ ∧ tget T' 2 = .int .u64 ((t : Nat) : Int) ∧ tget T' 3 = .bool true ∧ Fr [] A A' ∧ (∃ k, M k = some t) ∧ ∀ k a, M k = some a → t ≤ a) ?_ ?_
  · refine CodeW.loopR (k := 4) (fun k T A' => ∃ L, k = 4 - L ∧ L ≤ 4 ∧ tget T 10 = .int .i64 ((L : Nat) : Int) ∧ tget T 0 = .pointer (some ⟨W, 0, none⟩) ∧ (∀ j, j < 16 * L → ∀ k, M.at_ now j k = none) ∧ A' = A) ?_ ⟨0, rfl, by omega, ?_, ?_, by omega, rfl⟩
    · rintro k T A1 ⟨L, rfl, hL, u10, u0, hemp, rfl⟩
      refine codeW_ok E0_ok E0_ro ?_
      by_cases eL : L < 4
      · have d2 : ((L : Int) < 4) = True := eq_true (by omega)
        have ei1 : ∀ o, aIndexAddr E0 61 (.pointer (some ⟨W, o, none⟩)) (.int .i64 (L : Int)) = some (.pointer (some ⟨W, o + L * 16, none⟩)) := fun o => by
          have := indexAddr_arr (A := A1) ti61 t61_desc ti60 (kd := .i64) (k := L) (b := W) (off := o) eL
          rwa [t60_size] at this
        have hcut := wrow_cut (now := now) (all := all) h.len eL
        simp only [oneW_next, s_0, s_1, s_2, s_3, s_4, Hands, handsV, resultsV, oneOrTuple, argsT, ev, evs, evPairs, evOpt, closed, flat, nth, aCall, aEnter, notYield, aNilCheck, aLoad, partV, isAggD, aFieldAddr, aField, aExtract, Option.isNone, aBuiltin, cond_true, cond_false, cond_dec, if_true, if_false, List.length_cons, List.length_nil, forall_const, implies_true, List.append_nil, List.cons_append, List.nil_append, eq_self, Nat.reduceEqDiff, Nat.reduceAdd, Nat.reduceMul, Nat.reduceSub, Nat.reduceLT, Nat.reduceLeDiff, Nat.reduceBEq, reduceIte, reduceCtorEq, ti63, t63_desc, t63_size, ti25, t25_desc, ti22, t22_desc, t22_size, ti59, t59_desc, t59_size, ti60, t60_desc, t60_size, ti61, t61_desc, t61_size, ti3, t3_desc, t3_size, ti40, t40_desc, t40_size, ti33, t33_desc, t33_size, ti9, t9_desc, t9_size, wrow_now, wrow_all, eqnil25, fn17, fn26, fn27, fn28, fn29, fn38, fn39, fn12, fn14, fn15, u10, u0, d2, ei1, hW, t60_desc, hcut]
        refine CodeW.mono (Q := fun o => (∃ T', o = .fr ⟨.exit 2, T', A1⟩ ∧ tget T' 10 = .int .i64 (L : Int) ∧ tget T' 0 = .pointer (some ⟨W, 0, none⟩) ∧ ∀ j, j < 16 * L + 16 → ∀ k, M.at_ now j k = none) ∨ ∃ T' A' t, o = .fr ⟨.ret, T', A'⟩ ∧ tget T' 2 = .int .u64 ((t : Nat) : Int) ∧ tget T' 3 = .bool true ∧ Fr [] A1 A' ∧ (∃ k, M k = some t) ∧ ∀ k a, M k = some a → t ≤ a) ?_ ?_
        · refine CodeW.loopR (k := 16) (fun k T A' => ∃ j, k = 16 - j ∧ j ≤ 16 ∧ tget T 19 = .int .i64 ((j : Nat) : Int) ∧ tget T 18 = .agg (((ms.drop (L * 16)).take 16).map fun m => Value.map (some m)).toArray ∧ tget T 10 = .int .i64 (L : Int) ∧ tget T 0 = .pointer (some ⟨W, 0, none⟩) ∧ (∀ i, i < 16 * L + j → ∀ k, M.at_ now i k = none) ∧ A' = A1) ?_ ⟨0, rfl, by omega, ?_, ?_, ?_, ?_, hemp, rfl⟩
          · clear hemp u10 u0
            rintro k T A ⟨j, rfl, hj, u19, u18, u10, u0, hemp, rfl⟩
            refine codeW_ok E0_ok E0_ro ?_
            by_cases ej : j < 16
            · have d3 : ((j : Int) < 16) = True := eq_true (by omega)
              have hlt : 16 * L + j < ms.length := by rw [h.len]; omega
              have hm : ms[16 * L + j]? = some (ms[16 * L + j]'hlt) := List.getElem?_eq_getElem _
              generalize ms[16 * L + j]'hlt = m at hm
              have hidx := idx60 ej hm
              obtain ⟨es, ck, hes, hok, hg⟩ := h.slot _ _ hm
              have hel := (hF.at2 now (16 * L + j)).len hok hg
              have hlm := lenT hes
              by_cases hel0 : 0 < es.length
              · have d4 : ((es.length : Int) > 0) = True := eq_true (by omega)
                simp only [oneW_next, s_0, s_1, s_2, s_3, s_4, Hands, handsV, resultsV, oneOrTuple, argsT, ev, evs, evPairs, evOpt, closed, flat, nth, aCall, aEnter, notYield, aNilCheck, aLoad, partV, isAggD, aFieldAddr, aField, aExtract, Option.isNone, aBuiltin, cond_true, cond_false, cond_dec, if_true, if_false, List.length_cons, List.length_nil, forall_const, implies_true, List.append_nil, List.cons_append, List.nil_append, eq_self, Nat.reduceEqDiff, Nat.reduceAdd, Nat.reduceMul, Nat.reduceSub, Nat.reduceLT, Nat.reduceLeDiff, Nat.reduceBEq, reduceIte, reduceCtorEq, ti63, t63_desc, t63_size, ti25, t25_desc, ti22, t22_desc, t22_size, ti59, t59_desc, t59_size, ti60, t60_desc, t60_size, ti61, t61_desc, t61_size, ti3, t3_desc, t3_size, ti40, t40_desc, t40_size, ti33, t33_desc, t33_size, ti9, t9_desc, t9_size, wrow_now, wrow_all, eqnil25, fn17, fn26, fn27, fn28, fn29, fn38, fn39, fn12, fn14, fn15, u19, u18, d3, hidx, hlm, goInt, d4, fn36]
                refine CallT.mono values_spec ?_
                rintro _ _ ⟨rfl, rfl⟩
                have hn1 : Fr [] A (A.new (.row [.map (some m)] 1 false)) := ⟨by rw [ASt.next_new]; omega, fun b hb _ => by rw [ASt.get_new, if_neg (by omega)]⟩
                have hmb := h.below m (by simp [List.mem_of_getElem? hm])
                simp only [oneW_next, s_0, s_1, s_2, s_3, s_4, Hands, handsV, resultsV, oneOrTuple, argsT, ev, evs, evPairs, evOpt, closed, flat, nth, aCall, aEnter, notYield, aNilCheck, aLoad, partV, isAggD, aFieldAddr, aField, aExtract, Option.isNone, aBuiltin, cond_true, cond_false, cond_dec, if_true, if_false, List.length_cons, List.length_nil, forall_const, implies_true, List.append_nil, List.cons_append, List.nil_append, eq_self, Nat.reduceEqDiff, Nat.reduceAdd, Nat.reduceMul, Nat.reduceSub, Nat.reduceLT, Nat.reduceLeDiff, Nat.reduceBEq, reduceIte, reduceCtorEq, ti63, t63_desc, t63_size, ti25, t25_desc, ti22, t22_desc, t22_size, ti59, t59_desc, t59_size, ti60, t60_desc, t60_size, ti61, t61_desc, t61_size, ti3, t3_desc, t3_size, ti40, t40_desc, t40_size, ti33, t33_desc, t33_size, ti9, t9_desc, t9_size, wrow_now, wrow_all, eqnil25, fn17, fn26, fn27, fn28, fn29, fn38, fn39, fn12, fn14, fn15, fn35]
                refine CallT.mono (collect_spec (c := A.next) (m := m) (es := es) (ck := ck) (by rw [ASt.get_new, if_pos rfl]) (by rw [ASt.get_new, if_neg (by omega)]; exact hes) hok hel (by rw [ASt.next_new]; omega) (by rw [ASt.next_new]; omega)) ?_
                rintro v C ⟨done, lo, k1, k2, knd, k3, k4, k5⟩
                have hdl : 0 < (done.map (·.2.1)).length := by
                  cases done with
                  | nil =>
                    cases es with
                    | nil => simp at hel0
                    | cons y es => exact absurd (k2 y (by simp)) (by simp)
                  | cons y l => simp
                simp only [oneW_next, s_0, s_1, s_2, s_3, s_4, Hands, handsV, resultsV, oneOrTuple, argsT, ev, evs, evPairs, evOpt, closed, flat, nth, aCall, aEnter, notYield, aNilCheck, aLoad, partV, isAggD, aFieldAddr, aField, aExtract, Option.isNone, aBuiltin, cond_true, cond_false, cond_dec, if_true, if_false, List.length_cons, List.length_nil, forall_const, implies_true, List.append_nil, List.cons_append, List.nil_append, eq_self, Nat.reduceEqDiff, Nat.reduceAdd, Nat.reduceMul, Nat.reduceSub, Nat.reduceLT, Nat.reduceLeDiff, Nat.reduceBEq, reduceIte, reduceCtorEq, ti63, t63_desc, t63_size, ti25, t25_desc, ti22, t22_desc, t22_size, ti59, t59_desc, t59_size, ti60, t60_desc, t60_size, ti61, t61_desc, t61_size, ti3, t3_desc, t3_size, ti40, t40_desc, t40_size, ti33, t33_desc, t33_size, ti9, t9_desc, t9_size, wrow_now, wrow_all, eqnil25, fn17, fn26, fn27, fn28, fn29, fn38, fn39, fn12, fn14, fn15, fn34]
                refine CallT.mono (min_spec k3 hdl (by rw [List.length_map]; exact Nat.le_trans (nodup_le knd k1) hel)) ?_
                rintro _ _ ⟨t, rfl, ht, hall, rfl⟩
                have hl0 := least_of hok hg k1 k2 ht hall
                have hla := least_all h hemp hl0.1 hl0.2
                simp only [oneW_next, s_0, s_1, s_2, s_3, s_4, Hands, handsV, resultsV, oneOrTuple, argsT, ev, evs, evPairs, evOpt, closed, flat, nth, aCall, aEnter, notYield, aNilCheck, aLoad, partV, isAggD, aFieldAddr, aField, aExtract, Option.isNone, aBuiltin, cond_true, cond_false, cond_dec, if_true, if_false, List.length_cons, List.length_nil, forall_const, implies_true, List.append_nil, List.cons_append, List.nil_append, eq_self, Nat.reduceEqDiff, Nat.reduceAdd, Nat.reduceMul, Nat.reduceSub, Nat.reduceLT, Nat.reduceLeDiff, Nat.reduceBEq, reduceIte, reduceCtorEq, ti63, t63_desc, t63_size, ti25, t25_desc, ti22, t22_desc, t22_size, ti59, t59_desc, t59_size, ti60, t60_desc, t60_size, ti61, t61_desc, t61_size, ti3, t3_desc, t3_size, ti40, t40_desc, t40_size, ti33, t33_desc, t33_size, ti9, t9_desc, t9_size, wrow_now, wrow_all, eqnil25, fn17, fn26, fn27, fn28, fn29, fn38, fn39, fn12, fn14, fn15]
                exact .inr ⟨_, _, t, rfl, by simp only [tget_put, Nat.reduceEqDiff, if_false, if_true, reduceIte, and_self], by simp only [tget_put, Nat.reduceEqDiff, if_false, if_true, reduceIte, and_self], hn1.trans k5, hla⟩
              · have d4 : ((es.length : Int) > 0) = False := eq_false (by omega)
                simp only [oneW_next, s_0, s_1, s_2, s_3, s_4, Hands, handsV, resultsV, oneOrTuple, argsT, ev, evs, evPairs, evOpt, closed, flat, nth, aCall, aEnter, notYield, aNilCheck, aLoad, partV, isAggD, aFieldAddr, aField, aExtract, Option.isNone, aBuiltin, cond_true, cond_false, cond_dec, if_true, if_false, List.length_cons, List.length_nil, forall_const, implies_true, List.append_nil, List.cons_append, List.nil_append, eq_self, Nat.reduceEqDiff, Nat.reduceAdd, Nat.reduceMul, Nat.reduceSub, Nat.reduceLT, Nat.reduceLeDiff, Nat.reduceBEq, reduceIte, reduceCtorEq, ti63, t63_desc, t63_size, ti25, t25_desc, ti22, t22_desc, t22_size, ti59, t59_desc, t59_size, ti60, t60_desc, t60_size, ti61, t61_desc, t61_size, ti3, t3_desc, t3_size, ti40, t40_desc, t40_size, ti33, t33_desc, t33_size, ti9, t9_desc, t9_size, wrow_now, wrow_all, eqnil25, fn17, fn26, fn27, fn28, fn29, fn38, fn39, fn12, fn14, fn15, u19, u18, d3, hidx, hlm, goInt, d4, wrap_succ (show j < 1000000 by omega)]
                have : es = [] := List.eq_nil_of_length_eq_zero (by omega)
                subst this
                refine ⟨16 - (j + 1), by omega, j + 1, rfl, by omega, rfl, u10, u0, fun i hi k => ?_⟩
                by_cases hij : i = 16 * L + j
                · subst hij; exact (hg k).symm
                · exact hemp i (by omega) k
            · have d3 : ((j : Int) < 16) = False := eq_false (by omega)
              simp only [oneW_next, s_0, s_1, s_2, s_3, s_4, Hands, handsV, resultsV, oneOrTuple, argsT, ev, evs, evPairs, evOpt, closed, flat, nth, aCall, aEnter, notYield, aNilCheck, aLoad, partV, isAggD, aFieldAddr, aField, aExtract, Option.isNone, aBuiltin, cond_true, cond_false, cond_dec, if_true, if_false, List.length_cons, List.length_nil, forall_const, implies_true, List.append_nil, List.cons_append, List.nil_append, eq_self, Nat.reduceEqDiff, Nat.reduceAdd, Nat.reduceMul, Nat.reduceSub, Nat.reduceLT, Nat.reduceLeDiff, Nat.reduceBEq, reduceIte, reduceCtorEq, ti63, t63_desc, t63_size, ti25, t25_desc, ti22, t22_desc, t22_size, ti59, t59_desc, t59_size, ti60, t60_desc, t60_size, ti61, t61_desc, t61_size, ti3, t3_desc, t3_size, ti40, t40_desc, t40_size, ti33, t33_desc, t33_size, ti9, t9_desc, t9_size, wrow_now, wrow_all, eqnil25, fn17, fn26, fn27, fn28, fn29, fn38, fn39, fn12, fn14, fn15, u19, d3]
              exact .inl ⟨_, rfl, by simp only [tget_put, Nat.reduceEqDiff, if_false, if_true, reduceIte, u10], by simp only [tget_put, Nat.reduceEqDiff, if_false, if_true, reduceIte, u0], fun i hi => hemp i (by omega)⟩
          all_goals simp only [tget_put, Nat.reduceEqDiff, if_false, if_true, reduceIte, u10, u0]
          all_goals rfl
        · rintro o (⟨T', rfl, w10, w0, hemp'⟩ | ⟨T', A', t, rfl, w2, w3, wf, wl⟩)
          · simp only [oneW_next, s_0, s_1, s_2, s_3, s_4, Hands, handsV, resultsV, oneOrTuple, argsT, ev, evs, evPairs, evOpt, closed, flat, nth, aCall, aEnter, notYield, aNilCheck, aLoad, partV, isAggD, aFieldAddr, aField, aExtract, Option.isNone, aBuiltin, cond_true, cond_false, cond_dec, if_true, if_false, List.length_cons, List.length_nil, forall_const, implies_true, List.append_nil, List.cons_append, List.nil_append, eq_self, Nat.reduceEqDiff, Nat.reduceAdd, Nat.reduceMul, Nat.reduceSub, Nat.reduceLT, Nat.reduceLeDiff, Nat.reduceBEq, reduceIte, reduceCtorEq, ti63, t63_desc, t63_size, ti25, t25_desc, ti22, t22_desc, t22_size, ti59, t59_desc, t59_size, ti60, t60_desc, t60_size, ti61, t61_desc, t61_size, ti3, t3_desc, t3_size, ti40, t40_desc, t40_size, ti33, t33_desc, t33_size, ti9, t9_desc, t9_size, wrow_now, wrow_all, eqnil25, fn17, fn26, fn27, fn28, fn29, fn38, fn39, fn12, fn14, fn15, w10, wrap_succ (show L < 1000000 by omega)]
            exact ⟨4 - (L + 1), by omega, L + 1, rfl, by omega, rfl, w0, fun i hi => hemp' i (by omega)⟩
          · simp only [oneW_next, s_0, s_1, s_2, s_3, s_4, Hands, handsV, resultsV, oneOrTuple, argsT, ev, evs, evPairs, evOpt, closed, flat, nth, aCall, aEnter, notYield, aNilCheck, aLoad, partV, isAggD, aFieldAddr, aField, aExtract, Option.isNone, aBuiltin, cond_true, cond_false, cond_dec, if_true, if_false, List.length_cons, List.length_nil, forall_const, implies_true, List.append_nil, List.cons_append, List.nil_append, eq_self, Nat.reduceEqDiff, Nat.reduceAdd, Nat.reduceMul, Nat.reduceSub, Nat.reduceLT, Nat.reduceLeDiff, Nat.reduceBEq, reduceIte, reduceCtorEq, ti63, t63_desc, t63_size, ti25, t25_desc, ti22, t22_desc, t22_size, ti59, t59_desc, t59_size, ti60, t60_desc, t60_size, ti61, t61_desc, t61_size, ti3, t3_desc, t3_size, ti40, t40_desc, t40_size, ti33, t33_desc, t33_size, ti9, t9_desc, t9_size, wrow_now, wrow_all, eqnil25, fn17, fn26, fn27, fn28, fn29, fn38, fn39, fn12, fn14, fn15]
            exact .inr ⟨_, _, t, rfl, w2, w3, wf, wl⟩
      · have d2 : ((L : Int) < 4) = False := eq_false (by omega)
        simp only [oneW_next, s_0, s_1, s_2, s_3, s_4, Hands, handsV, resultsV, oneOrTuple, argsT, ev, evs, evPairs, evOpt, closed, flat, nth, aCall, aEnter, notYield, aNilCheck, aLoad, partV, isAggD, aFieldAddr, aField, aExtract, Option.isNone, aBuiltin, cond_true, cond_false, cond_dec, if_true, if_false, List.length_cons, List.length_nil, forall_const, implies_true, List.append_nil, List.cons_append, List.nil_append, eq_self, Nat.reduceEqDiff, Nat.reduceAdd, Nat.reduceMul, Nat.reduceSub, Nat.reduceLT, Nat.reduceLeDiff, Nat.reduceBEq, reduceIte, reduceCtorEq, ti63, t63_desc, t63_size, ti25, t25_desc, ti22, t22_desc, t22_size, ti59, t59_desc, t59_size, ti60, t60_desc, t60_size, ti61, t61_desc, t61_size, ti3, t3_desc, t3_size, ti40, t40_desc, t40_size, ti33, t33_desc, t33_size, ti9, t9_desc, t9_size, wrow_now, wrow_all, eqnil25, fn17, fn26, fn27, fn28, fn29, fn38, fn39, fn12, fn14, fn15, u10, d2]
        exact .inl ⟨_, rfl, by simp only [tget_put, Nat.reduceEqDiff, if_false, if_true, reduceIte, u0], fun i hi => hemp i (by omega)⟩
    all_goals simp only [tget_put, Nat.reduceEqDiff, if_false, if_true, reduceIte, and_self]
    all_goals rfl
  · rintro o (⟨T, rfl, u0, hemp⟩ | ⟨T', A', t, rfl, w2, w3, wf, wl⟩)
    · have hlt : 64 < ms.length := by rw [h.len]; omega
      have esl : nth (wrow now all ms) (2 + 64) = some (.map (some (ms[64]'hlt))) := wrow_slot hlt
      have hm : ms[64]? = some (ms[64]'hlt) := List.getElem?_eq_getElem _
      generalize ms[64]'hlt = m at esl hm
      obtain ⟨es, ck, hes, hok, hg⟩ := h.slot _ _ hm
      have hel := (hF.at2 now 64).len hok hg
      have hel0 : 0 < es.length := by
        by_cases h0 : 0 < es.length
        · exact h0
        · exfalso
          have : es = [] := List.eq_nil_of_length_eq_zero (by omega)
          subst this
          obtain ⟨l, _, g2, g3⟩ := hc
          cases l with
          | nil => exact hc0 g3.symm
          | cons k l =>
            obtain ⟨a, ha⟩ := Option.isSome_iff_exists.1 ((g2 k).1 (by simp))
            have h3 : M.at_ now (plc now a) k = some a := Option.filter_eq_some_iff.2 ⟨ha, by simp⟩
            by_cases h64 : plc now a < 64
            · rw [hemp _ h64 k] at h3; cases h3
            · have : plc now a = 64 := by have := plc_le64 (now := now) (a := a); omega
              rw [this, ← hg k] at h3
              cases h3
      simp only [oneW_next, s_0, s_1, s_2, s_3, s_4, Hands, handsV, resultsV, oneOrTuple, argsT, ev, evs, evPairs, evOpt, closed, flat, nth, aCall, aEnter, notYield, aNilCheck, aLoad, partV, isAggD, aFieldAddr, aField, aExtract, Option.isNone, aBuiltin, cond_true, cond_false, cond_dec, if_true, if_false, List.length_cons, List.length_nil, forall_const, implies_true, List.append_nil, List.cons_append, List.nil_append, eq_self, Nat.reduceEqDiff, Nat.reduceAdd, Nat.reduceMul, Nat.reduceSub, Nat.reduceLT, Nat.reduceLeDiff, Nat.reduceBEq, reduceIte, reduceCtorEq, ti63, t63_desc, t63_size, ti25, t25_desc, ti22, t22_desc, t22_size, ti59, t59_desc, t59_size, ti60, t60_desc, t60_size, ti61, t61_desc, t61_size, ti3, t3_desc, t3_size, ti40, t40_desc, t40_size, ti33, t33_desc, t33_size, ti9, t9_desc, t9_size, wrow_now, wrow_all, eqnil25, fn17, fn26, fn27, fn28, fn29, fn38, fn39, fn12, fn14, fn15, u0, hW, esl, fn36]
      refine CallT.mono values_spec ?_
      rintro _ _ ⟨rfl, rfl⟩
      have hn1 : Fr [] A (A.new (.row [.map (some m)] 1 false)) := ⟨by rw [ASt.next_new]; omega, fun b hb _ => by rw [ASt.get_new, if_neg (by omega)]⟩
      have hmb := h.below m (by simp [List.mem_of_getElem? hm])
      simp only [oneW_next, s_0, s_1, s_2, s_3, s_4, Hands, handsV, resultsV, oneOrTuple, argsT, ev, evs, evPairs, evOpt, closed, flat, nth, aCall, aEnter, notYield, aNilCheck, aLoad, partV, isAggD, aFieldAddr, aField, aExtract, Option.isNone, aBuiltin, cond_true, cond_false, cond_dec, if_true, if_false, List.length_cons, List.length_nil, forall_const, implies_true, List.append_nil, List.cons_append, List.nil_append, eq_self, Nat.reduceEqDiff, Nat.reduceAdd, Nat.reduceMul, Nat.reduceSub, Nat.reduceLT, Nat.reduceLeDiff, Nat.reduceBEq, reduceIte, reduceCtorEq, ti63, t63_desc, t63_size, ti25, t25_desc, ti22, t22_desc, t22_size, ti59, t59_desc, t59_size, ti60, t60_desc, t60_size, ti61, t61_desc, t61_size, ti3, t3_desc, t3_size, ti40, t40_desc, t40_size, ti33, t33_desc, t33_size, ti9, t9_desc, t9_size, wrow_now, wrow_all, eqnil25, fn17, fn26, fn27, fn28, fn29, fn38, fn39, fn12, fn14, fn15, fn35]
      refine CallT.mono (collect_spec (c := A.next) (m := m) (es := es) (ck := ck) (by rw [ASt.get_new, if_pos rfl]) (by rw [ASt.get_new, if_neg (by omega)]; exact hes) hok hel (by rw [ASt.next_new]; omega) (by rw [ASt.next_new]; omega)) ?_
      rintro v C ⟨done, lo, k1, k2, knd, k3, k4, k5⟩
      have hdl : 0 < (done.map (·.2.1)).length := by
        cases done with
        | nil =>
          cases es with
          | nil => simp at hel0
          | cons y es => exact absurd (k2 y (by simp)) (by simp)
        | cons y l => simp
      simp only [oneW_next, s_0, s_1, s_2, s_3, s_4, Hands, handsV, resultsV, oneOrTuple, argsT, ev, evs, evPairs, evOpt, closed, flat, nth, aCall, aEnter, notYield, aNilCheck, aLoad, partV, isAggD, aFieldAddr, aField, aExtract, Option.isNone, aBuiltin, cond_true, cond_false, cond_dec, if_true, if_false, List.length_cons, List.length_nil, forall_const, implies_true, List.append_nil, List.cons_append, List.nil_append, eq_self, Nat.reduceEqDiff, Nat.reduceAdd, Nat.reduceMul, Nat.reduceSub, Nat.reduceLT, Nat.reduceLeDiff, Nat.reduceBEq, reduceIte, reduceCtorEq, ti63, t63_desc, t63_size, ti25, t25_desc, ti22, t22_desc, t22_size, ti59, t59_desc, t59_size, ti60, t60_desc, t60_size, ti61, t61_desc, t61_size, ti3, t3_desc, t3_size, ti40, t40_desc, t40_size, ti33, t33_desc, t33_size, ti9, t9_desc, t9_size, wrow_now, wrow_all, eqnil25, fn17, fn26, fn27, fn28, fn29, fn38, fn39, fn12, fn14, fn15, fn34]
      refine CallT.mono (min_spec k3 hdl (by rw [List.length_map]; exact Nat.le_trans (nodup_le knd k1) hel)) ?_
      rintro _ _ ⟨t, rfl, ht, hall, rfl⟩
      have hl0 := least_of hok hg k1 k2 ht hall
      have hla := least_all h hemp hl0.1 hl0.2
      simp only [oneW_next, s_0, s_1, s_2, s_3, s_4, Hands, handsV, resultsV, oneOrTuple, argsT, ev, evs, evPairs, evOpt, closed, flat, nth, aCall, aEnter, notYield, aNilCheck, aLoad, partV, isAggD, aFieldAddr, aField, aExtract, Option.isNone, aBuiltin, cond_true, cond_false, cond_dec, if_true, if_false, List.length_cons, List.length_nil, forall_const, implies_true, List.append_nil, List.cons_append, List.nil_append, eq_self, Nat.reduceEqDiff, Nat.reduceAdd, Nat.reduceMul, Nat.reduceSub, Nat.reduceLT, Nat.reduceLeDiff, Nat.reduceBEq, reduceIte, reduceCtorEq, ti63, t63_desc, t63_size, ti25, t25_desc, ti22, t22_desc, t22_size, ti59, t59_desc, t59_size, ti60, t60_desc, t60_size, ti61, t61_desc, t61_size, ti3, t3_desc, t3_size, ti40, t40_desc, t40_size, ti33, t33_desc, t33_size, ti9, t9_desc, t9_size, wrow_now, wrow_all, eqnil25, fn17, fn26, fn27, fn28, fn29, fn38, fn39, fn12, fn14, fn15]
      exact ⟨hn1.trans k5, .inr ⟨t, rfl, hla⟩⟩
    · simp only [oneW_next, s_0, s_1, s_2, s_3, s_4, Hands, handsV, resultsV, oneOrTuple, argsT, ev, evs, evPairs, evOpt, closed, flat, nth, aCall, aEnter, notYield, aNilCheck, aLoad, partV, isAggD, aFieldAddr, aField, aExtract, Option.isNone, aBuiltin, cond_true, cond_false, cond_dec, if_true, if_false, List.length_cons, List.length_nil, forall_const, implies_true, List.append_nil, List.cons_append, List.nil_append, eq_self, Nat.reduceEqDiff, Nat.reduceAdd, Nat.reduceMul, Nat.reduceSub, Nat.reduceLT, Nat.reduceLeDiff, Nat.reduceBEq, reduceIte, reduceCtorEq, ti63, t63_desc, t63_size, ti25, t25_desc, ti22, t22_desc, t22_size, ti59, t59_desc, t59_size, ti60, t60_desc, t60_size, ti61, t61_desc, t61_size, ti3, t3_desc, t3_size, ti40, t40_desc, t40_size, ti33, t33_desc, t33_size, ti9, t9_desc, t9_size, wrow_now, wrow_all, eqnil25, fn17, fn26, fn27, fn28, fn29, fn38, fn39, fn12, fn14, fn15, w2, w3]
      exact ⟨wf, .inr ⟨t, rfl, wl⟩⟩
end Go.Proofs.Ytpmpclieclcbdaa

/- Ticks of any kind; contracts of the law 'WheelStands'; places, one behind another. -/
namespace Go.Proofs.Ytpmpclieclcbdaa
open Go Go.AE Go.Sort

variable {Z : Go.AE.Road}
set_option maxRecDepth 10000
set_option maxHeartbeats 4000000

/-- A tick is a number. -/
def Tick (A : ASt) (v : Value) (A' : ASt) : Prop := ∃ t : Nat, v = .int .u64 (t : Int) ∧ t < 18446744073709551616 ∧ Fr [] A A'
theorem tick_any {A : ASt} {W now all a b : Nat} {ms : List Nat} {M : TM} {k : Int} {name : ByteArray} (h : WheelAt A W all ms now M) (hF : Few M) (ha : a < 18446744073709551616) (hb : b < 18446744073709551616) :
    CallW Z Try.prog 16 [actV k name a b, .pointer (some ⟨W, 0, none⟩)] A (Tick A) := by
  by_cases k2 : k = 2 ∨ k = 5
  · exact CallW.mono (tick_by h.row (h.below W (by simp)) h.nowlt hb k2) fun v A' ⟨h1, h2⟩ => ⟨_, h1, lat_lt h.nowlt, h2⟩
  by_cases k6 : k = 6
  · subst k6
    refine CallW.of_code E0_ok E0_ro fn16 rfl (n := 34) rfl (rs := [.tmp 4]) rfl (by simp) (codeW_ok E0_ok E0_ro ?_)
    unfold actV
    simp only [oneW_next, s_0, s_1, s_2, s_3, s_4, Hands, handsV, resultsV, oneOrTuple, argsT, ev, evs, evPairs, evOpt, closed, flat, nth, aCall, aEnter, notYield, aNilCheck, aLoad, partV, isAggD, aFieldAddr, aField, aExtract, Option.isNone, aBuiltin, cond_true, cond_false, cond_dec, if_true, if_false, List.length_cons, List.length_nil, forall_const, implies_true, List.append_nil, List.cons_append, List.nil_append, eq_self, Nat.reduceEqDiff, Nat.reduceAdd, Nat.reduceMul, Nat.reduceSub, Nat.reduceLT, Nat.reduceLeDiff, Nat.reduceBEq, reduceIte, reduceCtorEq, ti63, t63_desc, t63_size, ti25, t25_desc, ti22, t22_desc, t22_size, ti59, t59_desc, t59_size, ti60, t60_desc, t60_size, ti61, t61_desc, t61_size, ti3, t3_desc, t3_size, ti40, t40_desc, t40_size, ti33, t33_desc, t33_size, ti9, t9_desc, t9_size, wrow_now, wrow_all, eqnil25, fn17, fn26, fn27, fn28, fn29, fn38, fn39, fn12, fn14, fn15, box40, ptrTo]
    generalize hCd : ASt.new A _ = C
    have c1 : C.get A.next = some (.row [.int .i64 6, .string name, .int .u64 (a : Int), .int .u64 (b : Int)] 4 false) := by rw [← hCd, ASt.get_new, if_pos rfl]
    have hC : ∀ c, c < A.next → C.get c = A.get c := fun c hc => by rw [← hCd, ASt.get_new, if_neg (by omega)]
    have hCn : C.next = A.next + 1 := by rw [← hCd]; simp only [ASt.next_new]
    clear hCd
    have fC : Fr [] A C := ⟨by omega, fun c hc _ => hC c hc⟩
    have hC1 : WheelAt C W all ms now M := h.congr fC.next fun b hb => fC.get b (h.below b hb) (by simp)
    simp only [oneW_next, s_0, s_1, s_2, s_3, s_4, Hands, handsV, resultsV, oneOrTuple, argsT, ev, evs, evPairs, evOpt, closed, flat, nth, aCall, aEnter, notYield, aNilCheck, aLoad, partV, isAggD, aFieldAddr, aField, aExtract, Option.isNone, aBuiltin, cond_true, cond_false, cond_dec, if_true, if_false, List.length_cons, List.length_nil, forall_const, implies_true, List.append_nil, List.cons_append, List.nil_append, eq_self, Nat.reduceEqDiff, Nat.reduceAdd, Nat.reduceMul, Nat.reduceSub, Nat.reduceLT, Nat.reduceLeDiff, Nat.reduceBEq, reduceIte, reduceCtorEq, ti63, t63_desc, t63_size, ti25, t25_desc, ti22, t22_desc, t22_size, ti59, t59_desc, t59_size, ti60, t60_desc, t60_size, ti61, t61_desc, t61_size, ti3, t3_desc, t3_size, ti40, t40_desc, t40_size, ti33, t33_desc, t33_size, ti9, t9_desc, t9_size, wrow_now, wrow_all, eqnil25, fn17, fn26, fn27, fn28, fn29, fn38, fn39, fn12, fn14, fn15, c1, Int.reduceEq, fn22]
    refine CallT.mono (soonest_spec hC1 hF) ?_
    rintro v D ⟨fD, (⟨rfl, _⟩ | ⟨t, rfl, ⟨k, hk⟩, _⟩)⟩
    · have hD1 : WheelAt D W all ms now M := hC1.congr fD.next fun b hb => fD.get b (hC1.below b hb) (by simp)
      simp only [oneW_next, s_0, s_1, s_2, s_3, s_4, Hands, handsV, resultsV, oneOrTuple, argsT, ev, evs, evPairs, evOpt, closed, flat, nth, aCall, aEnter, notYield, aNilCheck, aLoad, partV, isAggD, aFieldAddr, aField, aExtract, Option.isNone, aBuiltin, cond_true, cond_false, cond_dec, if_true, if_false, List.length_cons, List.length_nil, forall_const, implies_true, List.append_nil, List.cons_append, List.nil_append, eq_self, Nat.reduceEqDiff, Nat.reduceAdd, Nat.reduceMul, Nat.reduceSub, Nat.reduceLT, Nat.reduceLeDiff, Nat.reduceBEq, reduceIte, reduceCtorEq, ti63, t63_desc, t63_size, ti25, t25_desc, ti22, t22_desc, t22_size, ti59, t59_desc, t59_size, ti60, t60_desc, t60_size, ti61, t61_desc, t61_size, ti3, t3_desc, t3_size, ti40, t40_desc, t40_size, ti33, t33_desc, t33_size, ti9, t9_desc, t9_size, wrow_now, wrow_all, eqnil25, fn17, fn26, fn27, fn28, fn29, fn38, fn39, fn12, fn14, fn15]
      refine CallT.mono (clock_spec hD1.row) ?_
      rintro _ _ ⟨rfl, rfl⟩
      simp only [oneW_next, s_0, s_1, s_2, s_3, s_4, Hands, handsV, resultsV, oneOrTuple, argsT, ev, evs, evPairs, evOpt, closed, flat, nth, aCall, aEnter, notYield, aNilCheck, aLoad, partV, isAggD, aFieldAddr, aField, aExtract, Option.isNone, aBuiltin, cond_true, cond_false, cond_dec, if_true, if_false, List.length_cons, List.length_nil, forall_const, implies_true, List.append_nil, List.cons_append, List.nil_append, eq_self, Nat.reduceEqDiff, Nat.reduceAdd, Nat.reduceMul, Nat.reduceSub, Nat.reduceLT, Nat.reduceLeDiff, Nat.reduceBEq, reduceIte, reduceCtorEq, ti63, t63_desc, t63_size, ti25, t25_desc, ti22, t22_desc, t22_size, ti59, t59_desc, t59_size, ti60, t60_desc, t60_size, ti61, t61_desc, t61_size, ti3, t3_desc, t3_size, ti40, t40_desc, t40_size, ti33, t33_desc, t33_size, ti9, t9_desc, t9_size, wrow_now, wrow_all, eqnil25, fn17, fn26, fn27, fn28, fn29, fn38, fn39, fn12, fn14, fn15]
      exact ⟨now, rfl, h.nowlt, fC.trans fD⟩
    · simp only [oneW_next, s_0, s_1, s_2, s_3, s_4, Hands, handsV, resultsV, oneOrTuple, argsT, ev, evs, evPairs, evOpt, closed, flat, nth, aCall, aEnter, notYield, aNilCheck, aLoad, partV, isAggD, aFieldAddr, aField, aExtract, Option.isNone, aBuiltin, cond_true, cond_false, cond_dec, if_true, if_false, List.length_cons, List.length_nil, forall_const, implies_true, List.append_nil, List.cons_append, List.nil_append, eq_self, Nat.reduceEqDiff, Nat.reduceAdd, Nat.reduceMul, Nat.reduceSub, Nat.reduceLT, Nat.reduceLeDiff, Nat.reduceBEq, reduceIte, reduceCtorEq, ti63, t63_desc, t63_size, ti25, t25_desc, ti22, t22_desc, t22_size, ti59, t59_desc, t59_size, ti60, t60_desc, t60_size, ti61, t61_desc, t61_size, ti3, t3_desc, t3_size, ti40, t40_desc, t40_size, ti33, t33_desc, t33_size, ti9, t9_desc, t9_size, wrow_now, wrow_all, eqnil25, fn17, fn26, fn27, fn28, fn29, fn38, fn39, fn12, fn14, fn15]
      exact ⟨t, rfl, h.lt _ _ hk, fC.trans fD⟩
  · exact CallW.mono (tick_at ⟨fun e => k2 (.inl e), fun e => k2 (.inr e), k6⟩) fun v A' ⟨h1, h2⟩ => ⟨_, h1, ha, h2⟩

def R9 : Tgt → List Value → ASt → (Value → ASt → Prop) → Prop := fun t args A S =>
  (∃ (W now all a b : Nat) (ms : List Nat) (M : TM) (k : Int) (name : ByteArray), WheelAt A W all ms now M ∧ Few M ∧ a < 18446744073709551616 ∧ b < 18446744073709551616 ∧ t = .fn 16 ∧ args = [actV k name a b, .pointer (some ⟨W, 0, none⟩)] ∧ S = Tick A) ∨
  (∃ (W now all a : Nat) (ms : List Nat) (M : TM) (name : ByteArray), WheelAt A W all ms now M ∧ a < 18446744073709551616 ∧ t = .fn 12 ∧ args = [.pointer (some ⟨W, 0, none⟩), .string name, .int .u64 (a : Int)] ∧ S = fun v A' => v = .bool (decide (now < a)) ∧ WheelAt A' W all ms now (if now < a then M.put name a else M) ∧ Fr (W :: all :: ms) A A')
theorem R9_ok (t args A S) (h : R9 t args A S) : CallT Z Try.prog t args A S := by
  rcases h with ⟨W, now, all, a, b, ms, M, k, name, hw, hF, ha, hb, rfl, rfl, rfl⟩ | ⟨W, now, all, a, ms, M, name, hw, ha, rfl, rfl, rfl⟩
  · exact tick_any hw hF ha hb
  · exact put_spec hw name ha
theorem con16s {A : ASt} {W now all a b : Nat} {ms : List Nat} {M : TM} {k : Int} {name : ByteArray} (hw : WheelAt A W all ms now M) (hF : Few M) (ha : a < 18446744073709551616) (hb : b < 18446744073709551616) {K : Value → ASt → Prop} (h : ∀ (t : Nat) A', t < 18446744073709551616 → Fr [] A A' → K (.int .u64 (t : Int)) A') : conC R9 (.fn 16) [actV k name a b, .pointer (some ⟨W, 0, none⟩)] A K := by
  refine ⟨⟨_, .inl ⟨W, now, all, a, b, ms, M, k, name, hw, hF, ha, hb, rfl, rfl, rfl⟩⟩, ?_⟩
  rintro S (⟨W', now', all', a', b', ms', M', k', name', _, _, _, _, _, _, rfl⟩ | ⟨_, _, _, _, _, _, _, _, _, ht, _⟩) v A' hv
  · obtain ⟨t, rfl, h1, h2⟩ := hv
    exact h t A' h1 h2
  · cases ht
theorem con12s {A : ASt} {W now all a : Nat} {ms : List Nat} {M : TM} {name : ByteArray} (hw : WheelAt A W all ms now M) (halt : a < 18446744073709551616) {K : Value → ASt → Prop} (h : ∀ A', WheelAt A' W all ms now (if now < a then M.put name a else M) → Fr (W :: all :: ms) A A' → K (.bool (decide (now < a))) A') : conC R9 (.fn 12) [.pointer (some ⟨W, 0, none⟩), .string name, .int .u64 (a : Int)] A K := by
  refine ⟨⟨_, .inr ⟨W, now, all, a, ms, M, name, hw, halt, rfl, rfl, rfl⟩⟩, ?_⟩
  rintro S (⟨_, _, _, _, _, _, _, _, _, _, _, _, _, ht, _⟩ | ⟨W', now', all', a', ms', M', name', hw', _, _, ha, rfl⟩) v A' hv
  · cases ht
  · obtain ⟨rfl, hw2, hf⟩ := hv
    simp only [List.cons.injEq, Value.string.injEq, Value.int.injEq, Int.natCast_inj, Value.pointer.injEq, Option.some.injEq, Addr.mk.injEq, and_true, true_and] at ha
    obtain ⟨rfl, rfl, rfl⟩ := ha
    obtain ⟨rfl, rfl, rfl, rfl⟩ := hw.uniq hw'
    exact h A' hw2 hf

/-- The timers that stand ahead of a place. -/
noncomputable def TM.ahead (M : TM) (now p : Nat) : TM := fun k => (M k).filter fun a => decide (plc now a < p)
theorem ahead_zero {M : TM} {now : Nat} : Cnt (M.ahead now 0) 0 := by
  refine ⟨[], by simp, fun k => ?_, rfl⟩
  unfold TM.ahead
  cases M k with
  | none => simp
  | some a => simp [Option.filter]
theorem ahead_all {M : TM} {now : Nat} : M.ahead now 65 = M := by
  funext k
  unfold TM.ahead
  cases M k with
  | none => rfl
  | some a =>
    have := plc_le64 (now := now) (a := a)
    simp only [Option.filter]
    rw [if_pos (by simp; omega)]
theorem ahead_succ {M : TM} {now p n : Nat} {ts : List (ByteArray × Nat)} (h : Cnt (M.ahead now p) n) (ht : Lists (M.at_ now p) ts) : Cnt (M.ahead now (p + 1)) (n + ts.length) := by
  obtain ⟨l, h1, h2, h3⟩ := h
  obtain ⟨r, g1, g2, g3⟩ := ht.cnt
  refine ⟨l ++ r, List.nodup_append.2 ⟨h1, g1, fun x hx y hy e => ?_⟩, fun k => ?_, by rw [List.length_append, h3, g3]⟩
  · subst e
    obtain ⟨a, ha⟩ := Option.isSome_iff_exists.1 ((h2 x).1 hx)
    obtain ⟨b, hb⟩ := Option.isSome_iff_exists.1 ((g2 x).1 hy)
    obtain ⟨a1, a2⟩ := Option.filter_eq_some_iff.1 ha
    obtain ⟨b1, b2⟩ := Option.filter_eq_some_iff.1 hb
    rw [a1] at b1
    cases b1
    simp only [decide_eq_true_eq] at a2 b2
    omega
  · rw [List.mem_append, h2, g2]
    unfold TM.ahead TM.at_
    cases M k with
    | none => simp
    | some a =>
      by_cases e1 : plc now a < p
      · have : plc now a < p + 1 := by omega
        simp [Option.filter, e1, this]
      · by_cases e2 : plc now a = p
        · simp [Option.filter, e2]
        · have : ¬ plc now a < p + 1 := by omega
          simp [Option.filter, e1, e2, this]
end Go.Proofs.Ytpmpclieclcbdaa

/- Two wheels: contracts of what is called in one region; what holds of both. -/
namespace Go.Proofs.Ytpmpclieclcbdaa
open Go Go.AE Go.Sort

variable {Z : Go.AE.Road}
set_option maxRecDepth 10000
set_option maxHeartbeats 4000000

def RPut (W all now m a : Nat) (ms : List Nat) (M : TM) (name : ByteArray) (v : Value) (L : List (ByteArray × Nat)) : Tgt → List Value → ASt → (Value → ASt → Prop) → Prop := fun t args A S =>
  (WheelAt A W all ms now M ∧ t = .fn 12 ∧ args = [.pointer (some ⟨W, 0, none⟩), .string name, .int .u64 (a : Int)] ∧ S = fun r A' => r = .bool (decide (now < a)) ∧ WheelAt A' W all ms now (if now < a then M.put name a else M) ∧ Fr (W :: all :: ms) A A') ∨
  (DocAt A m now v L ∧ t = .fn 18 ∧ args = [.pointer (some ⟨m, 0, none⟩), .string name, .int .u64 (a : Int)] ∧ S = fun r A' => r = .bool (decide (now < a)) ∧ ∃ v' L', DocAt A' m now v' L' ∧ Lists (if now < a then M.put name a else M) L' ∧ L'.length ≤ L.length + 1 ∧ (∀ b, Blk v' b → Blk v b ∨ A.next ≤ b) ∧ Fr [m] A A')
section
variable {W all now m a : Nat} {ms : List Nat} {M : TM} {name : ByteArray} {v : Value} {L : List (ByteArray × Nat)}
theorem RPut_ok (ha : a < 18446744073709551616) (hL : Lists M L) (hl : L.length ≤ 900) (t args A S) (h : RPut W all now m a ms M name v L t args A S) : CallT Z Try.prog t args A S := by
  rcases h with ⟨hw, rfl, rfl, rfl⟩ | ⟨hd, rfl, rfl, rfl⟩
  · exact put_spec hw name ha
  · exact doc_put hd hL hl
theorem conA12 {A : ASt} (hw : WheelAt A W all ms now M) {K : Value → ASt → Prop} (h : ∀ A', WheelAt A' W all ms now (if now < a then M.put name a else M) → Fr (W :: all :: ms) A A' → K (.bool (decide (now < a))) A') :
    conC (RPut W all now m a ms M name v L) (.fn 12) [.pointer (some ⟨W, 0, none⟩), .string name, .int .u64 (a : Int)] A K := by
  refine ⟨⟨_, .inl ⟨hw, rfl, rfl, rfl⟩⟩, ?_⟩
  rintro S (⟨_, _, _, rfl⟩ | ⟨_, ht, _⟩) r A' hr
  · obtain ⟨rfl, h1, h2⟩ := hr
    exact h A' h1 h2
  · cases ht
theorem conA18 {A : ASt} (hd : DocAt A m now v L) {K : Value → ASt → Prop} (h : ∀ A' v' L', DocAt A' m now v' L' → Lists (if now < a then M.put name a else M) L' → L'.length ≤ L.length + 1 → (∀ b, Blk v' b → Blk v b ∨ A.next ≤ b) → Fr [m] A A' → K (.bool (decide (now < a))) A') :
    conC (RPut W all now m a ms M name v L) (.fn 18) [.pointer (some ⟨m, 0, none⟩), .string name, .int .u64 (a : Int)] A K := by
  refine ⟨⟨_, .inr ⟨hd, rfl, rfl, rfl⟩⟩, ?_⟩
  rintro S (⟨_, ht, _⟩ | ⟨_, _, _, rfl⟩) r A' hr
  · cases ht
  · obtain ⟨rfl, v', L', h1, h2, h3, h4, h5⟩ := hr
    exact h A' v' L' h1 h2 h3 h4 h5

def RDrop (W all now m : Nat) (ms : List Nat) (M : TM) (name : ByteArray) (v : Value) (L : List (ByteArray × Nat)) : Tgt → List Value → ASt → (Value → ASt → Prop) → Prop := fun t args A S =>
  (WheelAt A W all ms now M ∧ t = .fn 17 ∧ args = [.pointer (some ⟨W, 0, none⟩), .string name] ∧ S = fun r A' => r = .bool (M name).isSome ∧ WheelAt A' W all ms now (M.del name) ∧ Fr (W :: all :: ms) A A') ∨
  (DocAt A m now v L ∧ t = .fn 19 ∧ args = [.pointer (some ⟨m, 0, none⟩), .string name] ∧ S = fun r A' => r = .bool (M name).isSome ∧ ∃ v' L', DocAt A' m now v' L' ∧ Lists (M.del name) L' ∧ L'.length ≤ L.length ∧ (∀ b, Blk v' b → Blk v b ∨ A.next ≤ b) ∧ Fr [m] A A')
theorem RDrop_ok (hL : Lists M L) (hl : L.length ≤ 900) (t args A S) (h : RDrop W all now m ms M name v L t args A S) : CallT Z Try.prog t args A S := by
  rcases h with ⟨hw, rfl, rfl, rfl⟩ | ⟨hd, rfl, rfl, rfl⟩
  · exact drop_spec hw name
  · exact doc_drop hd hL hl
theorem conA17 {A : ASt} (hw : WheelAt A W all ms now M) {K : Value → ASt → Prop} (h : ∀ A', WheelAt A' W all ms now (M.del name) → Fr (W :: all :: ms) A A' → K (.bool (M name).isSome) A') :
    conC (RDrop W all now m ms M name v L) (.fn 17) [.pointer (some ⟨W, 0, none⟩), .string name] A K := by
  refine ⟨⟨_, .inl ⟨hw, rfl, rfl, rfl⟩⟩, ?_⟩
  rintro S (⟨_, _, _, rfl⟩ | ⟨_, ht, _⟩) r A' hr
  · obtain ⟨rfl, h1, h2⟩ := hr
    exact h A' h1 h2
  · cases ht
theorem conA19 {A : ASt} (hd : DocAt A m now v L) {K : Value → ASt → Prop} (h : ∀ A' v' L', DocAt A' m now v' L' → Lists (M.del name) L' → L'.length ≤ L.length → (∀ b, Blk v' b → Blk v b ∨ A.next ≤ b) → Fr [m] A A' → K (.bool (M name).isSome) A') :
    conC (RDrop W all now m ms M name v L) (.fn 19) [.pointer (some ⟨m, 0, none⟩), .string name] A K := by
  refine ⟨⟨_, .inr ⟨hd, rfl, rfl, rfl⟩⟩, ?_⟩
  rintro S (⟨_, ht, _⟩ | ⟨_, _, _, rfl⟩) r A' hr
  · cases ht
  · obtain ⟨rfl, v', L', h1, h2, h3, h4, h5⟩ := hr
    exact h A' v' L' h1 h2 h3 h4 h5

def RLen (W all now c : Nat) (ms : List Nat) (M : TM) : Tgt → List Value → ASt → (Value → ASt → Prop) → Prop := fun t args A S =>
  (WheelAt A W all ms now M ∧ t = .fn 15 ∧ args = [.pointer (some ⟨W, 0, none⟩)] ∧ S = fun r A' => r = .int .u64 (now : Int) ∧ A' = A) ∨
  (WheelAt A W all ms now M ∧ t = .fn 14 ∧ args = [.pointer (some ⟨W, 0, none⟩)] ∧ S = fun r A' => r = .int .i64 (c : Int) ∧ A' = A)
theorem RLen_ok {c : Nat} (hc : Cnt M c) (t args A S) (h : RLen W all now c ms M t args A S) : CallT Z Try.prog t args A S := by
  rcases h with ⟨hw, rfl, rfl, rfl⟩ | ⟨hw, rfl, rfl, rfl⟩
  · exact clock_spec hw.row
  · refine CallW.mono (len_spec hw) ?_
    rintro r A' ⟨⟨n, rfl, hn⟩, rfl⟩
    rw [hn.uniq hc]
    exact ⟨rfl, rfl⟩
theorem conA15 {A : ASt} {c : Nat} (hw : WheelAt A W all ms now M) {K : Value → ASt → Prop} (h : K (.int .u64 (now : Int)) A) :
    conC (RLen W all now c ms M) (.fn 15) [.pointer (some ⟨W, 0, none⟩)] A K := by
  refine ⟨⟨_, .inl ⟨hw, rfl, rfl, rfl⟩⟩, ?_⟩
  rintro S (⟨_, _, _, rfl⟩ | ⟨_, ht, _⟩) r A' hr
  · obtain ⟨rfl, rfl⟩ := hr
    exact h
  · cases ht
theorem conA14 {A : ASt} {c : Nat} (hw : WheelAt A W all ms now M) {K : Value → ASt → Prop} (h : K (.int .i64 (c : Int)) A) :
    conC (RLen W all now c ms M) (.fn 14) [.pointer (some ⟨W, 0, none⟩)] A K := by
  refine ⟨⟨_, .inr ⟨hw, rfl, rfl, rfl⟩⟩, ?_⟩
  rintro S (⟨_, ht, _⟩ | ⟨_, _, _, rfl⟩) r A' hr
  · cases ht
  · obtain ⟨rfl, rfl⟩ := hr
    exact h
end

/-- Both wheels hold the same timers. -/
def Both (A : ASt) (W all : Nat) (ms : List Nat) (m i : Nat) : Prop := ∃ now M v L, WheelAt A W all ms now M ∧ DocAt A m now v L ∧ Lists M L ∧ Upto M i ∧ L.length ≤ i ∧ ∀ b, Blk v b → b ∉ W :: all :: ms
theorem Both.mono {A : ASt} {W all m i j : Nat} {ms : List Nat} (h : Both A W all ms m i) (hij : i ≤ j) : Both A W all ms m j :=
  let ⟨now, M, v, L, h1, h2, h3, h4, h5, h6⟩ := h
  ⟨now, M, v, L, h1, h2, h3, h4.mono hij, Nat.le_trans h5 hij, h6⟩
theorem Both.fr {A A' : ASt} {W all m i : Nat} {ms : List Nat} (h : Both A W all ms m i) (hf : Fr [] A A') : Both A' W all ms m i :=
  let ⟨now, M, v, L, h1, h2, h3, h4, h5, h6⟩ := h
  ⟨now, M, v, L, h1.congr hf.next (fun b hb => hf.get b (h1.below b hb) (by simp)), h2.fr hf (by simp) (by simp), h3, h4, h5, h6⟩

/-- The walk halts at the switch. -/
def blk2 (Z : Go.AE.Road) (E : Env) (P : Program) (n : Nat) (ro : Option Nat) (b : Code) (Q : Out → Prop) (T : Tmps) (A : ASt) : Prop := codeW Z E P n ro (.block 2 b) Q T A
@[congr] theorem blk2_congr {E : Env} {P : Program} {n n' : Nat} {ro : Option Nat} {b : Code} {Q : Out → Prop} {T : Tmps} {A : ASt} (h : ∀ _ : Unit, tg n = n') : blk2 Z E P n ro b Q T A = blk2 Z E P n' ro b Q T A := by rw [← h ()]; rfl
theorem c_stop2 {E : Env} {P : Program} {n : Nat} {ro : Option Nat} {b : Code} {Q : Out → Prop} {T : Tmps} {A : ASt} : codeW Z E P n ro (.block 2 b) Q T A = blk2 Z E P n ro b Q T A := by rw [blk2]
theorem build47 {s : Spans} {n : Int} : aBuild (withRo E0 s) 47 [(0, .int .u64 n)] = some (.agg #[.int .u64 n, .slice none 0 0]) := by kernel_rfl
theorem box47 {x y : Value} : aBox E0 47 (.agg #[x, y]) = some (.row [x, y] 2 false, ptrTo) := by
  simp only [aBox, ti47, t47_size, Value.cells]
theorem eqB {xo yo : Operand} {a : Bool} : aBin2 E0 .eql 4 xo yo (.bool a) (.bool a) = some (.bool true) := by
  cases a <;> kernel_rfl
theorem neqB {xo yo : Operand} {a b : Bool} : aBin2 E0 .neq 4 xo yo (.bool a) (.bool b) = some (.bool (a != b)) := by
  cases a <;> cases b <;> kernel_rfl
end Go.Proofs.Ytpmpclieclcbdaa
