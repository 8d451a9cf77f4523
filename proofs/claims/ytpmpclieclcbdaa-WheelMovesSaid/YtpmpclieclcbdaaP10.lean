/- The law 'WheelMoves': the walk. -/
import Derived.Test.YtpmpclieclcbdaaP09
import Derived.Test.YtpmpclieclcbdaaRows
import Derived.ProofKit
import Derived.Lib.SmallJoins
import Derived.Deep.Slices
set_option linter.unusedSimpArgs false
set_option linter.unusedVariables false
set_option linter.unusedSectionVars false
namespace Go.Proofs.Ytpmpclieclcbdaa
open Go Go.AE Go.Sort

variable {Z : Go.AE.Road}
set_option maxRecDepth 10000

theorem box38 {k a : Value} : aBox E0 38 (.agg #[k, a]) = some (.row [k, a] 2 false, ptrTo) := by
  simp only [aBox, ti38, t38_size]; rfl
theorem wix38 {s : Spans} {b k off : Nat} (hk : k < 2) : aIndexAddr (withRo E0 s) 38 (.pointer (some ⟨b, off, none⟩)) (.int .i64 (k : Int)) = some (.pointer (some ⟨b, off + k, none⟩)) := by
  have := indexAddr_arr (A := { heap := .e, next := 0 }) ti38 t38_desc ti22 (kd := .i64) (k := k) (b := b) (off := off) hk
  rw [t22_size, Nat.mul_one] at this
  exact this

/-- At most so many names. -/
def Upto (M : TM) (n : Nat) : Prop := ∃ l : List ByteArray, l.length ≤ n ∧ ∀ k, (M k).isSome = true → k ∈ l
theorem Upto.mono {M : TM} {n m : Nat} (h : Upto M n) (hn : n ≤ m) : Upto M m := let ⟨l, h1, h2⟩ := h; ⟨l, Nat.le_trans h1 hn, h2⟩
theorem Upto.few {M : TM} {n : Nat} (h : Upto M n) (hn : n ≤ 1000) : Few M := let ⟨l, h1, h2⟩ := h; ⟨l, Nat.le_trans h1 hn, h2⟩
theorem Upto.del {M : TM} {n : Nat} (h : Upto M n) (k : ByteArray) : Upto (M.del k) n := by
  obtain ⟨l, h1, h2⟩ := h
  refine ⟨l, h1, fun j hj => h2 j ?_⟩
  unfold TM.del at hj
  split at hj
  · cases hj
  · exact hj
theorem Upto.put {M : TM} {n : Nat} (h : Upto M n) (k : ByteArray) (a : Nat) : Upto (M.put k a) (n + 1) := by
  obtain ⟨l, h1, h2⟩ := h
  refine ⟨k :: l, by simp; omega, fun j hj => ?_⟩
  unfold TM.put at hj
  by_cases e : j = k
  · simp [e]
  · rw [if_neg e] at hj
    simp [h2 j hj]

theorem lat_lt {n b : Nat} (hn : n < 18446744073709551616) : lat n b < 18446744073709551616 := by
  unfold lat
  split <;> omega

/-- "mine". -/
def mine : ByteArray := ⟨#[109, 105, 110, 101]⟩

theorem cnt_upto {M : TM} {n k : Nat} (h : Cnt M n) (hu : Upto M k) : n ≤ k := by
  obtain ⟨l, h1, h2, h3⟩ := h
  obtain ⟨r, g1, g2⟩ := hu
  have := nodup_leG h1 fun x hx => g2 x ((h2 x).1 hx)
  omega
theorem b_neqB {xo yo : Operand} {x y : Bool} : aBin2 E0 .neq 4 xo yo (.bool x) (.bool y) = some (.bool (x != y)) := by
  cases x <;> cases y <;> simp [aBin2, aBin, eqV, ti4, t4_desc]

theorem putW_abs {n : Nat} {T : Tmps} {d : Tmp} {v : Value} {K : Tmps → Prop} (P : Tmps → Prop) (hd : d < n) (hP : P (T.put d (some v))) (h : ∀ T', P T' → K T') : putW n T (some d) v K := ⟨hd, h _ hP⟩

/-- How many of the first so many are named so. -/
def howMany (k : ByteArray) : Nat → List (ByteArray × Nat) → Nat
  | 0, _ => 0
  | _, [] => 0
  | n + 1, t :: l => (if t.1 = k then 1 else 0) + howMany k n l
theorem howMany_succ {k : ByteArray} : ∀ {n : Nat} {l : List (ByteArray × Nat)} {t : ByteArray × Nat}, l[n]? = some t → howMany k (n + 1) l = howMany k n l + (if t.1 = k then 1 else 0)
  | _, [], t, h => by simp at h
  | 0, y :: l, t, h => by
    simp at h; subst h
    cases l <;> simp [howMany]
  | n + 1, y :: l, t, h => by
    have := howMany_succ (k := k) (n := n) (l := l) (t := t) (by simpa using h)
    rw [howMany, this]
    simp only [howMany]
    omega
theorem howMany_le {k : ByteArray} : ∀ {n : Nat} {l : List (ByteArray × Nat)}, howMany k n l ≤ n
  | 0, l => by cases l <;> simp [howMany]
  | n + 1, [] => by simp [howMany]
  | n + 1, y :: l => by
    have := howMany_le (k := k) (n := n) (l := l)
    simp only [howMany]
    split <;> omega
theorem howMany_no {k : ByteArray} : ∀ {l : List (ByteArray × Nat)} {n : Nat}, k ∉ l.map (·.1) → howMany k n l = 0
  | [], n, _ => by cases n <;> rfl
  | y :: l, 0, _ => rfl
  | y :: l, n + 1, h => by
    simp only [List.map_cons, List.mem_cons, not_or] at h
    rw [howMany, howMany_no h.2, if_neg fun e => h.1 e.symm]
theorem howMany_all {k : ByteArray} : ∀ {l : List (ByteArray × Nat)}, (l.map (·.1)).Nodup → k ∈ l.map (·.1) → howMany k l.length l = 1
  | [], _, h => by simp at h
  | y :: l, hn, h => by
    simp only [List.map_cons, List.nodup_cons] at hn
    rw [List.length_cons, howMany]
    by_cases e : y.1 = k
    · rw [if_pos e, howMany_no (e ▸ hn.1)]
    · rw [if_neg e, howMany_all hn.2 (by simpa [List.map_cons, show k ≠ y.1 from fun x => e x.symm] using h)]
theorem Lists.many {D : TM} {ts : List (ByteArray × Nat)} (h : Lists D ts) (k : ByteArray) : howMany k ts.length ts = if (D k).isSome then 1 else 0 := by
  cases hk : D k with
  | none =>
    refine howMany_no fun hm => ?_
    obtain ⟨y, hy, rfl⟩ := List.mem_map.1 hm
    rw [(h.mem y.1 y.2).1 hy] at hk
    cases hk
  | some a => exact howMany_all h.names (List.mem_map.2 ⟨(k, a), (h.mem k a).2 hk, rfl⟩)

theorem moves_walk {s : Spans} {acts : List ActD} {sv : Value} {now b0 b1 : Nat} (hro : RoadRo Z (withRo E0 s)) (hs0 : roTab s 0 = some (acells acts)) (hsl : 0 < s.length)
    (hlen : ∀ A, aLen (withRo E0 s) 37 sv A = some (.int .i64 (acts.length : Int))) (hix : ∀ i, i < acts.length → aIndexAddr (withRo E0 s) 37 sv (.int .i64 (i : Int)) = some (.pointer (some ⟨0, i * 4, none⟩)))
    (hnow : now < 18446744073709551616) (hb0 : b0 < 18446744073709551616) (hb1 : b1 < 18446744073709551616) (hact : ∀ x ∈ acts, x.by_ < 18446744073709551616) :
    CallW Z Try.prog 4 [.int .u64 (now : Int), sv, .agg #[.int .u64 (b0 : Int), .int .u64 (b1 : Int)]] (startAt s.length) (fun v _ => v = .bool true) := by
  refine CallW.of_code (withRo_ok E0_ok) hro (f := 4) (fn := Try.f4) fn4 rfl (n := 152) rfl (rs := [.tmp 6]) rfl (by simp) (codeW_ok (withRo_ok E0_ok) hro ?_)
  simp only [oneW_next, tg_eq, tgN_eq, brW_true, brW_false, c_skip, c_ret, c_exit, c_seq, c_cond, condW_b, c_block, c_scope, c_region, c_drawn, c_loop, onw_n, onw_r, onw_e, outb_e, outb_o, outb_n, outb_r, putW_some, putW_none, opsW_arr, opsW_nil, opsW_cons, wanted_none, wanted_some, guardB_some, oneW_next, oneW_move, oneW_assign, oneW_pick, oneW_build, oneW_load, oneW_store, oneW_nilCheck, oneW_binOp, oneW_unOp, oneW_makeFunc, oneW_slice, oneW_fieldAddr, oneW_field, oneW_indexAddr, oneW_index, oneW_lookup, oneW_mapUpdate, oneW_range, oneW_entry, oneW_extract, oneW_call, oneW_alloc, oneW_box, oneW_makeMap, oneW_buildSlice, oneW_convert, Hands, handsV, resultsV, oneOrTuple, argsT, arW_val, ofVal_some, plain_val, cond_true, cond_false,
    aOp_move, aOp_assign, aOp_pick, aOp_build, aOp_load, aOp_store, aOp_nilCheck, aOp_binOp, aOp_unOp, aOp_makeFunc, aOp_slice, aOp_fieldAddr, aOp_field, aOp_indexAddr, aOp_index, aOp_lookup, aOp_mapUpdate, aOp_range, aOp_entry, aOp_extract, aOp_call, aOp_alloc, aOp_box, aOp_makeMap, aOp_buildSlice, aInvoke_func,
    nbeq, nble, nblt, cond_dec, decide_true, decide_false, decide_eq_true_eq, Bool.false_eq_true, Bool.and_true, Bool.true_and, Bool.not_true, Bool.not_false, bq_t, bq_f, ev, evs, evPairs, evOpt, closed, flat, tget_put, Nat.reduceEqDiff, Nat.reduceAdd, Nat.reduceMul, Nat.reduceSub, Nat.reduceLT, Nat.reduceLeDiff, Nat.reduceBEq, reduceIte, if_true, if_false, reduceCtorEq, nth, aCall, aEnter, notYield, aNilCheck, aLoad, partV, isAggD, aFieldAddr, aField, aExtract, b_add, b_sub, b_mul, b_xor, b_eql, b_neq, b_lss, b_leq, b_gtr, b_geq, b_shr, Option.isNone, aBuiltin,
    List.length_cons, List.length_nil, true_implies, false_implies, and_true, true_and, implies_true, forall_const, List.append_nil, List.cons_append, List.nil_append, ASt.get_set, ASt.get_new, ASt.next_set, ASt.next_new, Nat.zero_add, Nat.add_zero, eq_self, ctor_self, ti63, t63_desc, t63_size, ti25, t25_desc, ti22, t22_desc, t22_size, ti59, t59_desc, t59_size, ti60, t60_desc, t60_size, ti61, t61_desc, t61_size, ti3, t3_desc, t3_size, ti40, t40_desc, t40_size, ti33, t33_desc, t33_size, ti9, t9_desc, t9_size, wrow_now, wrow_all, eqnil25, fn17, fn26, fn27, fn28, fn29, fn38, fn39, fn12, fn14, fn15, wti, wfn, wbin, wbox, box38, ptrTo, fn10]
  generalize hCd : ASt.new (startAt s.length) _ = C
  have cP : C.get (startAt s.length).next = some (.row [.int .u64 (b0 : Int), .int .u64 (b1 : Int)] 2 false) := by rw [← hCd, ASt.get_new, if_pos rfl]
  have c0 : C.get 0 = none := by rw [← hCd, ASt.get_new, if_neg (by show ¬ 0 = s.length; omega)]; rfl
  have hCn : C.next = s.length + 1 := by rw [← hCd]; simp only [ASt.next_new]; rfl
  have hPe : (startAt s.length).next = s.length := rfl
  rw [hPe] at cP ⊢
  clear hCd
  refine CallT.mono (new_walk hnow) ?_
  rintro v B ⟨W, all, ms, rfl, hw, fB, hWn⟩
  have bP : B.get s.length = some (.row [.int .u64 (b0 : Int), .int .u64 (b1 : Int)] 2 false) := (fB.get _ (by omega) (by simp)).trans cP
  have b0n : B.get 0 = none := (fB.get 0 (by omega) (by simp)).trans c0
  have hBn : s.length < B.next := by have := fB.next; omega
  have h0 : 0 ∉ W :: all :: ms := by
    intro hm
    simp only [List.mem_cons] at hm
    rcases hm with h | h | h
    · omega
    · obtain ⟨l, ck, hl, _⟩ := hw.allm
      rw [← h, b0n] at hl
      cases hl
    · obtain ⟨j, hj⟩ := List.getElem?_of_mem h
      obtain ⟨l, ck, hl, _⟩ := hw.slot j 0 hj
      rw [b0n] at hl
      cases hl
  have hP : s.length ∉ W :: all :: ms := by
    intro hm
    simp only [List.mem_cons] at hm
    rcases hm with h | h | h
    · omega
    · exact hw.allm.block bP h
    · obtain ⟨j, hj⟩ := List.getElem?_of_mem h
      exact (hw.slot j _ hj).block bP rfl
  have len9 : ∀ (nm : ByteArray) (A : ASt), aLen (withRo E0 s) 9 (.string nm) A = some (.int .i64 (nm.data.toList.length : Int)) := fun nm A => by
    simp only [aLen, wti, ti9, t9_desc]; rfl
  simp only [oneW_next, tg_eq, tgN_eq, brW_true, brW_false, c_skip, c_ret, c_exit, c_seq, c_cond, condW_b, c_block, c_scope, c_region, c_drawn, c_loop, onw_n, onw_r, onw_e, outb_e, outb_o, outb_n, outb_r, putW_some, putW_none, opsW_arr, opsW_nil, opsW_cons, wanted_none, wanted_some, guardB_some, oneW_next, oneW_move, oneW_assign, oneW_pick, oneW_build, oneW_load, oneW_store, oneW_nilCheck, oneW_binOp, oneW_unOp, oneW_makeFunc, oneW_slice, oneW_fieldAddr, oneW_field, oneW_indexAddr, oneW_index, oneW_lookup, oneW_mapUpdate, oneW_range, oneW_entry, oneW_extract, oneW_call, oneW_alloc, oneW_box, oneW_makeMap, oneW_buildSlice, oneW_convert, Hands, handsV, resultsV, oneOrTuple, argsT, arW_val, ofVal_some, plain_val, cond_true, cond_false,
    aOp_move, aOp_assign, aOp_pick, aOp_build, aOp_load, aOp_store, aOp_nilCheck, aOp_binOp, aOp_unOp, aOp_makeFunc, aOp_slice, aOp_fieldAddr, aOp_field, aOp_indexAddr, aOp_index, aOp_lookup, aOp_mapUpdate, aOp_range, aOp_entry, aOp_extract, aOp_call, aOp_alloc, aOp_box, aOp_makeMap, aOp_buildSlice, aInvoke_func,
    nbeq, nble, nblt, cond_dec, decide_true, decide_false, decide_eq_true_eq, Bool.false_eq_true, Bool.and_true, Bool.true_and, Bool.not_true, Bool.not_false, bq_t, bq_f, ev, evs, evPairs, evOpt, closed, flat, tget_put, Nat.reduceEqDiff, Nat.reduceAdd, Nat.reduceMul, Nat.reduceSub, Nat.reduceLT, Nat.reduceLeDiff, Nat.reduceBEq, reduceIte, if_true, if_false, reduceCtorEq, nth, aCall, aEnter, notYield, aNilCheck, aLoad, partV, isAggD, aFieldAddr, aField, aExtract, b_add, b_sub, b_mul, b_xor, b_eql, b_neq, b_lss, b_leq, b_gtr, b_geq, b_shr, Option.isNone, aBuiltin,
    List.length_cons, List.length_nil, true_implies, false_implies, and_true, true_and, implies_true, forall_const, List.append_nil, List.cons_append, List.nil_append, ASt.get_set, ASt.get_new, ASt.next_set, ASt.next_new, Nat.zero_add, Nat.add_zero, eq_self, ctor_self, ti63, t63_desc, t63_size, ti25, t25_desc, ti22, t22_desc, t22_size, ti59, t59_desc, t59_size, ti60, t60_desc, t60_size, ti61, t61_desc, t61_size, ti3, t3_desc, t3_size, ti40, t40_desc, t40_size, ti33, t33_desc, t33_size, ti9, t9_desc, t9_size, wrow_now, wrow_all, eqnil25, fn17, fn26, fn27, fn28, fn29, fn38, fn39, fn12, fn14, fn15, wti, wfn, wbin, eqnil25]
  refine CodeW.mono (Q := fun o => ∃ T' A' M, o = .fr ⟨.exit 0, T', A'⟩ ∧ tget T' 0 = .int .u64 (now : Int) ∧ tget T' 7 = .pointer (some ⟨W, 0, none⟩) ∧ tget T' 5 = .pointer (some ⟨s.length, 0, none⟩) ∧ WheelAt A' W all ms now M ∧ Upto M 100 ∧ Fr (W :: all :: ms) B A') ?_ ?_
  · refine CodeW.loopR (k := 100) (fun k T A' => ∃ i M, k = 100 - i ∧ i ≤ 100 ∧ i ≤ acts.length ∧ tget T 8 = .int .i64 (i : Int) ∧ tget T 1 = sv ∧ tget T 0 = .int .u64 (now : Int) ∧ tget T 7 = .pointer (some ⟨W, 0, none⟩) ∧ tget T 5 = .pointer (some ⟨s.length, 0, none⟩) ∧ WheelAt A' W all ms now M ∧ Upto M i ∧ Fr (W :: all :: ms) B A') ?_ ⟨0, _, rfl, by omega, by omega, ?_, ?_, ?_, ?_, ?_, hw, ⟨[], by simp, by simp⟩, .refl _ _⟩
    · rintro k T A1 ⟨i, M, rfl, hi1, hi2, u8, u1, u0, u7, u5, hwi, hup, fr⟩
      refine codeW_ok (withRo_ok E0_ok) hro ?_
      by_cases e1 : i < acts.length
      · by_cases e2 : i < 100
        · have d1 : ((i : Int) < (acts.length : Int)) = True := eq_true (by omega)
          have d2 : ((i : Int) < 100) = True := eq_true (by omega)
          simp only [oneW_next, tg_eq, tgN_eq, brW_true, brW_false, c_skip, c_ret, c_exit, c_seq, c_cond, condW_b, c_block, c_scope, c_region, c_drawn, c_loop, onw_n, onw_r, onw_e, outb_e, outb_o, outb_n, outb_r, putW_some, putW_none, opsW_arr, opsW_nil, opsW_cons, wanted_none, wanted_some, guardB_some, oneW_next, oneW_move, oneW_assign, oneW_pick, oneW_build, oneW_load, oneW_store, oneW_nilCheck, oneW_binOp, oneW_unOp, oneW_makeFunc, oneW_slice, oneW_fieldAddr, oneW_field, oneW_indexAddr, oneW_index, oneW_lookup, oneW_mapUpdate, oneW_range, oneW_entry, oneW_extract, oneW_call, oneW_alloc, oneW_box, oneW_makeMap, oneW_buildSlice, oneW_convert, Hands, handsV, resultsV, oneOrTuple, argsT, arW_val, ofVal_some, plain_val, cond_true, cond_false,
    aOp_move, aOp_assign, aOp_pick, aOp_build, aOp_load, aOp_store, aOp_nilCheck, aOp_binOp, aOp_unOp, aOp_makeFunc, aOp_slice, aOp_fieldAddr, aOp_field, aOp_indexAddr, aOp_index, aOp_lookup, aOp_mapUpdate, aOp_range, aOp_entry, aOp_extract, aOp_call, aOp_alloc, aOp_box, aOp_makeMap, aOp_buildSlice, aInvoke_func,
    nbeq, nble, nblt, cond_dec, decide_true, decide_false, decide_eq_true_eq, Bool.false_eq_true, Bool.and_true, Bool.true_and, Bool.not_true, Bool.not_false, bq_t, bq_f, ev, evs, evPairs, evOpt, closed, flat, tget_put, Nat.reduceEqDiff, Nat.reduceAdd, Nat.reduceMul, Nat.reduceSub, Nat.reduceLT, Nat.reduceLeDiff, Nat.reduceBEq, reduceIte, if_true, if_false, reduceCtorEq, nth, aCall, aEnter, notYield, aNilCheck, aLoad, partV, isAggD, aFieldAddr, aField, aExtract, b_add, b_sub, b_mul, b_xor, b_eql, b_neq, b_lss, b_leq, b_gtr, b_geq, b_shr, Option.isNone, aBuiltin,
    List.length_cons, List.length_nil, true_implies, false_implies, and_true, true_and, implies_true, forall_const, List.append_nil, List.cons_append, List.nil_append, ASt.get_set, ASt.get_new, ASt.next_set, ASt.next_new, Nat.zero_add, Nat.add_zero, eq_self, ctor_self, ti63, t63_desc, t63_size, ti25, t25_desc, ti22, t22_desc, t22_size, ti59, t59_desc, t59_size, ti60, t60_desc, t60_size, ti61, t61_desc, t61_size, ti3, t3_desc, t3_size, ti40, t40_desc, t40_size, ti33, t33_desc, t33_size, ti9, t9_desc, t9_size, wrow_now, wrow_all, eqnil25, fn17, fn26, fn27, fn28, fn29, fn38, fn39, fn12, fn14, fn15, wti, wfn, wbin, u8, u1, hlen, d1, d2]
          have hx : acts[i]? = some acts[i] := List.getElem?_eq_getElem _
          have hxm : acts[i] ∈ acts := List.getElem_mem _
          generalize acts[i] = x at hx hxm
          obtain ⟨g0, g1, g2, g3, g4⟩ := acells_get acts i x hx
          have a0 : A1.get 0 = none := by rw [fr.get 0 (by omega) h0]; exact b0n
          have ro0 : (withRo E0 s).ro 0 = some (acells acts) := hs0
          have hx1 := hix i e1
          simp only [oneW_next, tg_eq, tgN_eq, brW_true, brW_false, c_skip, c_ret, c_exit, c_seq, c_cond, condW_b, c_block, c_scope, c_region, c_drawn, c_loop, onw_n, onw_r, onw_e, outb_e, outb_o, outb_n, outb_r, putW_some, putW_none, opsW_arr, opsW_nil, opsW_cons, wanted_none, wanted_some, guardB_some, oneW_next, oneW_move, oneW_assign, oneW_pick, oneW_build, oneW_load, oneW_store, oneW_nilCheck, oneW_binOp, oneW_unOp, oneW_makeFunc, oneW_slice, oneW_fieldAddr, oneW_field, oneW_indexAddr, oneW_index, oneW_lookup, oneW_mapUpdate, oneW_range, oneW_entry, oneW_extract, oneW_call, oneW_alloc, oneW_box, oneW_makeMap, oneW_buildSlice, oneW_convert, Hands, handsV, resultsV, oneOrTuple, argsT, arW_val, ofVal_some, plain_val, cond_true, cond_false,
    aOp_move, aOp_assign, aOp_pick, aOp_build, aOp_load, aOp_store, aOp_nilCheck, aOp_binOp, aOp_unOp, aOp_makeFunc, aOp_slice, aOp_fieldAddr, aOp_field, aOp_indexAddr, aOp_index, aOp_lookup, aOp_mapUpdate, aOp_range, aOp_entry, aOp_extract, aOp_call, aOp_alloc, aOp_box, aOp_makeMap, aOp_buildSlice, aInvoke_func,
    nbeq, nble, nblt, cond_dec, decide_true, decide_false, decide_eq_true_eq, Bool.false_eq_true, Bool.and_true, Bool.true_and, Bool.not_true, Bool.not_false, bq_t, bq_f, ev, evs, evPairs, evOpt, closed, flat, tget_put, Nat.reduceEqDiff, Nat.reduceAdd, Nat.reduceMul, Nat.reduceSub, Nat.reduceLT, Nat.reduceLeDiff, Nat.reduceBEq, reduceIte, if_true, if_false, reduceCtorEq, nth, aCall, aEnter, notYield, aNilCheck, aLoad, partV, isAggD, aFieldAddr, aField, aExtract, b_add, b_sub, b_mul, b_xor, b_eql, b_neq, b_lss, b_leq, b_gtr, b_geq, b_shr, Option.isNone, aBuiltin,
    List.length_cons, List.length_nil, true_implies, false_implies, and_true, true_and, implies_true, forall_const, List.append_nil, List.cons_append, List.nil_append, ASt.get_set, ASt.get_new, ASt.next_set, ASt.next_new, Nat.zero_add, Nat.add_zero, eq_self, ctor_self, ti63, t63_desc, t63_size, ti25, t25_desc, ti22, t22_desc, t22_size, ti59, t59_desc, t59_size, ti60, t60_desc, t60_size, ti61, t61_desc, t61_size, ti3, t3_desc, t3_size, ti40, t40_desc, t40_size, ti33, t33_desc, t33_size, ti9, t9_desc, t9_size, wrow_now, wrow_all, eqnil25, fn17, fn26, fn27, fn28, fn29, fn38, fn39, fn12, fn14, fn15, wti, wfn, wbin, u8, u1, hx1, a0, ro0, g0]
          by_cases ek : x.kind = 2
          · have d3 : (x.kind = 2) = True := eq_true ek
            simp only [oneW_next, tg_eq, tgN_eq, brW_true, brW_false, c_skip, c_ret, c_exit, c_seq, c_cond, condW_b, c_block, c_scope, c_region, c_drawn, c_loop, onw_n, onw_r, onw_e, outb_e, outb_o, outb_n, outb_r, putW_some, putW_none, opsW_arr, opsW_nil, opsW_cons, wanted_none, wanted_some, guardB_some, oneW_next, oneW_move, oneW_assign, oneW_pick, oneW_build, oneW_load, oneW_store, oneW_nilCheck, oneW_binOp, oneW_unOp, oneW_makeFunc, oneW_slice, oneW_fieldAddr, oneW_field, oneW_indexAddr, oneW_index, oneW_lookup, oneW_mapUpdate, oneW_range, oneW_entry, oneW_extract, oneW_call, oneW_alloc, oneW_box, oneW_makeMap, oneW_buildSlice, oneW_convert, Hands, handsV, resultsV, oneOrTuple, argsT, arW_val, ofVal_some, plain_val, cond_true, cond_false,
    aOp_move, aOp_assign, aOp_pick, aOp_build, aOp_load, aOp_store, aOp_nilCheck, aOp_binOp, aOp_unOp, aOp_makeFunc, aOp_slice, aOp_fieldAddr, aOp_field, aOp_indexAddr, aOp_index, aOp_lookup, aOp_mapUpdate, aOp_range, aOp_entry, aOp_extract, aOp_call, aOp_alloc, aOp_box, aOp_makeMap, aOp_buildSlice, aInvoke_func,
    nbeq, nble, nblt, cond_dec, decide_true, decide_false, decide_eq_true_eq, Bool.false_eq_true, Bool.and_true, Bool.true_and, Bool.not_true, Bool.not_false, bq_t, bq_f, ev, evs, evPairs, evOpt, closed, flat, tget_put, Nat.reduceEqDiff, Nat.reduceAdd, Nat.reduceMul, Nat.reduceSub, Nat.reduceLT, Nat.reduceLeDiff, Nat.reduceBEq, reduceIte, if_true, if_false, reduceCtorEq, nth, aCall, aEnter, notYield, aNilCheck, aLoad, partV, isAggD, aFieldAddr, aField, aExtract, b_add, b_sub, b_mul, b_xor, b_eql, b_neq, b_lss, b_leq, b_gtr, b_geq, b_shr, Option.isNone, aBuiltin,
    List.length_cons, List.length_nil, true_implies, false_implies, and_true, true_and, implies_true, forall_const, List.append_nil, List.cons_append, List.nil_append, ASt.get_set, ASt.get_new, ASt.next_set, ASt.next_new, Nat.zero_add, Nat.add_zero, eq_self, ctor_self, ti63, t63_desc, t63_size, ti25, t25_desc, ti22, t22_desc, t22_size, ti59, t59_desc, t59_size, ti60, t60_desc, t60_size, ti61, t61_desc, t61_size, ti3, t3_desc, t3_size, ti40, t40_desc, t40_size, ti33, t33_desc, t33_size, ti9, t9_desc, t9_size, wrow_now, wrow_all, eqnil25, fn17, fn26, fn27, fn28, fn29, fn38, fn39, fn12, fn14, fn15, wti, wfn, wbin, u8, u1, hx1, a0, ro0, g1, d3, len9]
            refine brW_join (fun T' A' => ∃ M', tget T' 8 = .int .i64 (i : Int) ∧ tget T' 1 = sv ∧ tget T' 0 = .int .u64 (now : Int) ∧ tget T' 7 = .pointer (some ⟨W, 0, none⟩) ∧ tget T' 5 = .pointer (some ⟨s.length, 0, none⟩) ∧ WheelAt A' W all ms now M' ∧ Upto M' (i + 1) ∧ Fr (W :: all :: ms) B A') (fun _ => ?_) (fun _ => ?_) ?_
            · refine CodeW.seqd (withRo_ok E0_ok) hro mixed R8_ok [0, 1, 2, 3, 4, 5, 6, 7, 8, 9, 10, 11, 12] [0, 1, 2, 3, 4, 5] (by simp only [reorder, reoGo, strip, List.map_cons, List.map_nil, opAt, remap, nth, Option.map, σ, place', nbeq, List.length_cons, List.length_nil, Nat.reduceAdd, Nat.reduceLT, Nat.reduceEqDiff, if_true, if_false, reduceIte]; rfl) (by decide +kernel) (by kernel_rfl) (by kernel_rfl) (by kernel_rfl) ?_
              simp only [oneW_next, tg_eq, tgN_eq, brW_true, brW_false, c_skip, c_ret, c_exit, c_seq, c_cond, condW_b, c_block, c_scope, c_region, c_drawn, c_loop, onw_n, onw_r, onw_e, outb_e, outb_o, outb_n, outb_r, putW_some, putW_none, opsW_arr, opsW_nil, opsW_cons, wanted_none, wanted_some, guardB_some, oneW_next, oneW_move, oneW_assign, oneW_pick, oneW_build, oneW_load, oneW_store, oneW_nilCheck, oneW_binOp, oneW_unOp, oneW_makeFunc, oneW_slice, oneW_fieldAddr, oneW_field, oneW_indexAddr, oneW_index, oneW_lookup, oneW_mapUpdate, oneW_range, oneW_entry, oneW_extract, oneW_call, oneW_alloc, oneW_box, oneW_makeMap, oneW_buildSlice, oneW_convert, Hands, handsV, resultsV, oneOrTuple, argsT, arW_val, ofVal_some, plain_val, cond_true, cond_false,
    aOp_move, aOp_assign, aOp_pick, aOp_build, aOp_load, aOp_store, aOp_nilCheck, aOp_binOp, aOp_unOp, aOp_makeFunc, aOp_slice, aOp_fieldAddr, aOp_field, aOp_indexAddr, aOp_index, aOp_lookup, aOp_mapUpdate, aOp_range, aOp_entry, aOp_extract, aOp_call, aOp_alloc, aOp_box, aOp_makeMap, aOp_buildSlice, aInvoke_func,
    nbeq, nble, nblt, cond_dec, decide_true, decide_false, decide_eq_true_eq, Bool.false_eq_true, Bool.and_true, Bool.true_and, Bool.not_true, Bool.not_false, bq_t, bq_f, ev, evs, evPairs, evOpt, closed, flat, tget_put, Nat.reduceEqDiff, Nat.reduceAdd, Nat.reduceMul, Nat.reduceSub, Nat.reduceLT, Nat.reduceLeDiff, Nat.reduceBEq, reduceIte, if_true, if_false, reduceCtorEq, nth, aCall, aEnter, notYield, aNilCheck, aLoad, partV, isAggD, aFieldAddr, aField, aExtract, b_add, b_sub, b_mul, b_xor, b_eql, b_neq, b_lss, b_leq, b_gtr, b_geq, b_shr, Option.isNone, aBuiltin,
    List.length_cons, List.length_nil, true_implies, false_implies, and_true, true_and, implies_true, forall_const, List.append_nil, List.cons_append, List.nil_append, ASt.get_set, ASt.get_new, ASt.next_set, ASt.next_new, Nat.zero_add, Nat.add_zero, eq_self, ctor_self, ti63, t63_desc, t63_size, ti25, t25_desc, ti22, t22_desc, t22_size, ti59, t59_desc, t59_size, ti60, t60_desc, t60_size, ti61, t61_desc, t61_size, ti3, t3_desc, t3_size, ti40, t40_desc, t40_size, ti33, t33_desc, t33_size, ti9, t9_desc, t9_size, wrow_now, wrow_all, eqnil25, fn17, fn26, fn27, fn28, fn29, fn38, fn39, fn12, fn14, fn15, seqW_nil, seqW_cons, pendIf_t, pendIf_f, pendW, AR.val.injEq, exists_eq', and_self, fresh_move, quiet_move, fresh_assign, quiet_assign, fresh_pick, quiet_pick, fresh_build, quiet_build, fresh_load, quiet_load, fresh_store, quiet_store, fresh_nilCheck, quiet_nilCheck, fresh_binOp, quiet_binOp, fresh_unOp, quiet_unOp, fresh_makeFunc, quiet_makeFunc, fresh_slice, quiet_slice, fresh_fieldAddr, quiet_fieldAddr, fresh_field, quiet_field, fresh_indexAddr, quiet_indexAddr, fresh_index, quiet_index, fresh_lookup, quiet_lookup, fresh_mapUpdate, quiet_mapUpdate, fresh_range, quiet_range, fresh_entry, quiet_entry, fresh_extract, quiet_extract, fresh_call, quiet_call, fresh_alloc, quiet_alloc, fresh_box, quiet_box, fresh_makeMap, quiet_makeMap, fresh_buildSlice, quiet_buildSlice, quietC_value, quietC_len, quietC_cap, quietC_append, quietC_delete, fr_buildSlice, stillW_val, stillW_bad, readW_val, freshW_some, hasN, Bool.true_or, Bool.false_or, Bool.or_true, Bool.or_false, reorder, E0_ron, get_empty, get_next, ofVal_none, valEq_int, valEq_str, valEq_bool, valEq_map, valEq_ptr, valEq_slice, valEq_nilSlice, valEq_mapNil, List.length_cons, List.length_nil, wti, wfn, wbin, u8, u1, u7, hx1, a0, ro0, g1, g4, fn16]
              have hwi' : WheelAt { heap := A1.heap, next := A1.next + 13 } W all ms now M := hwi.congr (Nat.le_add_right _ _) (fun _ _ => rfl)
              refine con16 hwi' (hact x hxm) (.inl ek) ?_
              intro A2 f2
              have hw2 := hwi'.congr f2.next (fun b hb => f2.get b (hwi'.below b hb) (by simp))
              simp only [oneW_next, tg_eq, tgN_eq, brW_true, brW_false, c_skip, c_ret, c_exit, c_seq, c_cond, condW_b, c_block, c_scope, c_region, c_drawn, c_loop, onw_n, onw_r, onw_e, outb_e, outb_o, outb_n, outb_r, putW_some, putW_none, opsW_arr, opsW_nil, opsW_cons, wanted_none, wanted_some, guardB_some, oneW_next, oneW_move, oneW_assign, oneW_pick, oneW_build, oneW_load, oneW_store, oneW_nilCheck, oneW_binOp, oneW_unOp, oneW_makeFunc, oneW_slice, oneW_fieldAddr, oneW_field, oneW_indexAddr, oneW_index, oneW_lookup, oneW_mapUpdate, oneW_range, oneW_entry, oneW_extract, oneW_call, oneW_alloc, oneW_box, oneW_makeMap, oneW_buildSlice, oneW_convert, Hands, handsV, resultsV, oneOrTuple, argsT, arW_val, ofVal_some, plain_val, cond_true, cond_false,
    aOp_move, aOp_assign, aOp_pick, aOp_build, aOp_load, aOp_store, aOp_nilCheck, aOp_binOp, aOp_unOp, aOp_makeFunc, aOp_slice, aOp_fieldAddr, aOp_field, aOp_indexAddr, aOp_index, aOp_lookup, aOp_mapUpdate, aOp_range, aOp_entry, aOp_extract, aOp_call, aOp_alloc, aOp_box, aOp_makeMap, aOp_buildSlice, aInvoke_func,
    nbeq, nble, nblt, cond_dec, decide_true, decide_false, decide_eq_true_eq, Bool.false_eq_true, Bool.and_true, Bool.true_and, Bool.not_true, Bool.not_false, bq_t, bq_f, ev, evs, evPairs, evOpt, closed, flat, tget_put, Nat.reduceEqDiff, Nat.reduceAdd, Nat.reduceMul, Nat.reduceSub, Nat.reduceLT, Nat.reduceLeDiff, Nat.reduceBEq, reduceIte, if_true, if_false, reduceCtorEq, nth, aCall, aEnter, notYield, aNilCheck, aLoad, partV, isAggD, aFieldAddr, aField, aExtract, b_add, b_sub, b_mul, b_xor, b_eql, b_neq, b_lss, b_leq, b_gtr, b_geq, b_shr, Option.isNone, aBuiltin,
    List.length_cons, List.length_nil, true_implies, false_implies, and_true, true_and, implies_true, forall_const, List.append_nil, List.cons_append, List.nil_append, ASt.get_set, ASt.get_new, ASt.next_set, ASt.next_new, Nat.zero_add, Nat.add_zero, eq_self, ctor_self, ti63, t63_desc, t63_size, ti25, t25_desc, ti22, t22_desc, t22_size, ti59, t59_desc, t59_size, ti60, t60_desc, t60_size, ti61, t61_desc, t61_size, ti3, t3_desc, t3_size, ti40, t40_desc, t40_size, ti33, t33_desc, t33_size, ti9, t9_desc, t9_size, wrow_now, wrow_all, eqnil25, fn17, fn26, fn27, fn28, fn29, fn38, fn39, fn12, fn14, fn15, seqW_nil, seqW_cons, pendIf_t, pendIf_f, pendW, AR.val.injEq, exists_eq', and_self, fresh_move, quiet_move, fresh_assign, quiet_assign, fresh_pick, quiet_pick, fresh_build, quiet_build, fresh_load, quiet_load, fresh_store, quiet_store, fresh_nilCheck, quiet_nilCheck, fresh_binOp, quiet_binOp, fresh_unOp, quiet_unOp, fresh_makeFunc, quiet_makeFunc, fresh_slice, quiet_slice, fresh_fieldAddr, quiet_fieldAddr, fresh_field, quiet_field, fresh_indexAddr, quiet_indexAddr, fresh_index, quiet_index, fresh_lookup, quiet_lookup, fresh_mapUpdate, quiet_mapUpdate, fresh_range, quiet_range, fresh_entry, quiet_entry, fresh_extract, quiet_extract, fresh_call, quiet_call, fresh_alloc, quiet_alloc, fresh_box, quiet_box, fresh_makeMap, quiet_makeMap, fresh_buildSlice, quiet_buildSlice, quietC_value, quietC_len, quietC_cap, quietC_append, quietC_delete, fr_buildSlice, stillW_val, stillW_bad, readW_val, freshW_some, hasN, Bool.true_or, Bool.false_or, Bool.or_true, Bool.or_false, reorder, E0_ron, get_empty, get_next, ofVal_none, valEq_int, valEq_str, valEq_bool, valEq_map, valEq_ptr, valEq_slice, valEq_nilSlice, valEq_mapNil, List.length_cons, List.length_nil, wti, wfn, wbin, u8, u1, u7, fn12]
              refine con12 hw2 (lat_lt hnow) ?_
              intro A3 hw3 f3
              simp only [oneW_next, tg_eq, tgN_eq, brW_true, brW_false, c_skip, c_ret, c_exit, c_seq, c_cond, condW_b, c_block, c_scope, c_region, c_drawn, c_loop, onw_n, onw_r, onw_e, outb_e, outb_o, outb_n, outb_r, putW_some, putW_none, opsW_arr, opsW_nil, opsW_cons, wanted_none, wanted_some, guardB_some, oneW_next, oneW_move, oneW_assign, oneW_pick, oneW_build, oneW_load, oneW_store, oneW_nilCheck, oneW_binOp, oneW_unOp, oneW_makeFunc, oneW_slice, oneW_fieldAddr, oneW_field, oneW_indexAddr, oneW_index, oneW_lookup, oneW_mapUpdate, oneW_range, oneW_entry, oneW_extract, oneW_call, oneW_alloc, oneW_box, oneW_makeMap, oneW_buildSlice, oneW_convert, Hands, handsV, resultsV, oneOrTuple, argsT, arW_val, ofVal_some, plain_val, cond_true, cond_false,
    aOp_move, aOp_assign, aOp_pick, aOp_build, aOp_load, aOp_store, aOp_nilCheck, aOp_binOp, aOp_unOp, aOp_makeFunc, aOp_slice, aOp_fieldAddr, aOp_field, aOp_indexAddr, aOp_index, aOp_lookup, aOp_mapUpdate, aOp_range, aOp_entry, aOp_extract, aOp_call, aOp_alloc, aOp_box, aOp_makeMap, aOp_buildSlice, aInvoke_func,
    nbeq, nble, nblt, cond_dec, decide_true, decide_false, decide_eq_true_eq, Bool.false_eq_true, Bool.and_true, Bool.true_and, Bool.not_true, Bool.not_false, bq_t, bq_f, ev, evs, evPairs, evOpt, closed, flat, tget_put, Nat.reduceEqDiff, Nat.reduceAdd, Nat.reduceMul, Nat.reduceSub, Nat.reduceLT, Nat.reduceLeDiff, Nat.reduceBEq, reduceIte, if_true, if_false, reduceCtorEq, nth, aCall, aEnter, notYield, aNilCheck, aLoad, partV, isAggD, aFieldAddr, aField, aExtract, b_add, b_sub, b_mul, b_xor, b_eql, b_neq, b_lss, b_leq, b_gtr, b_geq, b_shr, Option.isNone, aBuiltin,
    List.length_cons, List.length_nil, true_implies, false_implies, and_true, true_and, implies_true, forall_const, List.append_nil, List.cons_append, List.nil_append, ASt.get_set, ASt.get_new, ASt.next_set, ASt.next_new, Nat.zero_add, Nat.add_zero, eq_self, ctor_self, ti63, t63_desc, t63_size, ti25, t25_desc, ti22, t22_desc, t22_size, ti59, t59_desc, t59_size, ti60, t60_desc, t60_size, ti61, t61_desc, t61_size, ti3, t3_desc, t3_size, ti40, t40_desc, t40_size, ti33, t33_desc, t33_size, ti9, t9_desc, t9_size, wrow_now, wrow_all, eqnil25, fn17, fn26, fn27, fn28, fn29, fn38, fn39, fn12, fn14, fn15, seqW_nil, seqW_cons, pendIf_t, pendIf_f, pendW, AR.val.injEq, exists_eq', and_self, fresh_move, quiet_move, fresh_assign, quiet_assign, fresh_pick, quiet_pick, fresh_build, quiet_build, fresh_load, quiet_load, fresh_store, quiet_store, fresh_nilCheck, quiet_nilCheck, fresh_binOp, quiet_binOp, fresh_unOp, quiet_unOp, fresh_makeFunc, quiet_makeFunc, fresh_slice, quiet_slice, fresh_fieldAddr, quiet_fieldAddr, fresh_field, quiet_field, fresh_indexAddr, quiet_indexAddr, fresh_index, quiet_index, fresh_lookup, quiet_lookup, fresh_mapUpdate, quiet_mapUpdate, fresh_range, quiet_range, fresh_entry, quiet_entry, fresh_extract, quiet_extract, fresh_call, quiet_call, fresh_alloc, quiet_alloc, fresh_box, quiet_box, fresh_makeMap, quiet_makeMap, fresh_buildSlice, quiet_buildSlice, quietC_value, quietC_len, quietC_cap, quietC_append, quietC_delete, fr_buildSlice, stillW_val, stillW_bad, readW_val, freshW_some, hasN, Bool.true_or, Bool.false_or, Bool.or_true, Bool.or_false, reorder, E0_ron, get_empty, get_next, ofVal_none, valEq_int, valEq_str, valEq_bool, valEq_map, valEq_ptr, valEq_slice, valEq_nilSlice, valEq_mapNil, List.length_cons, List.length_nil, wti, wfn, wbin, u8, u1, u7]
              refine ⟨_, _, rfl, _, by simp only [tget_put, Nat.reduceEqDiff, if_false, reduceIte]; exact u8, by simp only [tget_put, Nat.reduceEqDiff, if_false, reduceIte]; exact u1, by simp only [tget_put, Nat.reduceEqDiff, if_false, reduceIte]; exact u0, by simp only [tget_put, Nat.reduceEqDiff, if_false, reduceIte]; exact u7, by simp only [tget_put, Nat.reduceEqDiff, if_false, reduceIte]; exact u5, hw3, ?_, fr.trans ((⟨Nat.le_add_right _ _, fun _ _ _ => rfl⟩ : Fr (W :: all :: ms) A1 { heap := A1.heap, next := A1.next + 13 }).trans ((f2.sub (by simp)).trans f3))⟩
              split
              · exact hup.put _ _
              · exact hup.mono (by omega)
            · exact codeW_skip ⟨_, _, rfl, M, by simp only [tget_put, Nat.reduceEqDiff, if_false, reduceIte]; exact u8, by simp only [tget_put, Nat.reduceEqDiff, if_false, reduceIte]; exact u1, by simp only [tget_put, Nat.reduceEqDiff, if_false, reduceIte]; exact u0, by simp only [tget_put, Nat.reduceEqDiff, if_false, reduceIte]; exact u7, by simp only [tget_put, Nat.reduceEqDiff, if_false, reduceIte]; exact u5, hwi, hup.mono (by omega), fr⟩
            · rintro T' A' ⟨M', v8, v1, v0, v7, v5, hw', hup', fr'⟩
              simp only [oneW_next, tg_eq, tgN_eq, brW_true, brW_false, c_skip, c_ret, c_exit, c_seq, c_cond, condW_b, c_block, c_scope, c_region, c_drawn, c_loop, onw_n, onw_r, onw_e, outb_e, outb_o, outb_n, outb_r, putW_some, putW_none, opsW_arr, opsW_nil, opsW_cons, wanted_none, wanted_some, guardB_some, oneW_next, oneW_move, oneW_assign, oneW_pick, oneW_build, oneW_load, oneW_store, oneW_nilCheck, oneW_binOp, oneW_unOp, oneW_makeFunc, oneW_slice, oneW_fieldAddr, oneW_field, oneW_indexAddr, oneW_index, oneW_lookup, oneW_mapUpdate, oneW_range, oneW_entry, oneW_extract, oneW_call, oneW_alloc, oneW_box, oneW_makeMap, oneW_buildSlice, oneW_convert, Hands, handsV, resultsV, oneOrTuple, argsT, arW_val, ofVal_some, plain_val, cond_true, cond_false,
    aOp_move, aOp_assign, aOp_pick, aOp_build, aOp_load, aOp_store, aOp_nilCheck, aOp_binOp, aOp_unOp, aOp_makeFunc, aOp_slice, aOp_fieldAddr, aOp_field, aOp_indexAddr, aOp_index, aOp_lookup, aOp_mapUpdate, aOp_range, aOp_entry, aOp_extract, aOp_call, aOp_alloc, aOp_box, aOp_makeMap, aOp_buildSlice, aInvoke_func,
    nbeq, nble, nblt, cond_dec, decide_true, decide_false, decide_eq_true_eq, Bool.false_eq_true, Bool.and_true, Bool.true_and, Bool.not_true, Bool.not_false, bq_t, bq_f, ev, evs, evPairs, evOpt, closed, flat, tget_put, Nat.reduceEqDiff, Nat.reduceAdd, Nat.reduceMul, Nat.reduceSub, Nat.reduceLT, Nat.reduceLeDiff, Nat.reduceBEq, reduceIte, if_true, if_false, reduceCtorEq, nth, aCall, aEnter, notYield, aNilCheck, aLoad, partV, isAggD, aFieldAddr, aField, aExtract, b_add, b_sub, b_mul, b_xor, b_eql, b_neq, b_lss, b_leq, b_gtr, b_geq, b_shr, Option.isNone, aBuiltin,
    List.length_cons, List.length_nil, true_implies, false_implies, and_true, true_and, implies_true, forall_const, List.append_nil, List.cons_append, List.nil_append, ASt.get_set, ASt.get_new, ASt.next_set, ASt.next_new, Nat.zero_add, Nat.add_zero, eq_self, ctor_self, ti63, t63_desc, t63_size, ti25, t25_desc, ti22, t22_desc, t22_size, ti59, t59_desc, t59_size, ti60, t60_desc, t60_size, ti61, t61_desc, t61_size, ti3, t3_desc, t3_size, ti40, t40_desc, t40_size, ti33, t33_desc, t33_size, ti9, t9_desc, t9_size, wrow_now, wrow_all, eqnil25, fn17, fn26, fn27, fn28, fn29, fn38, fn39, fn12, fn14, fn15, wti, wfn, wbin, v8, wrap_succ (show i < 1000000 by omega)]
              exact ⟨100 - (i + 1), by omega, i + 1, M', rfl, by omega, by omega, rfl, v1, v0, v7, v5, hw', hup', fr'⟩
          · have d3 : (x.kind = 2) = False := eq_false ek
            simp only [oneW_next, tg_eq, tgN_eq, brW_true, brW_false, c_skip, c_ret, c_exit, c_seq, c_cond, condW_b, c_block, c_scope, c_region, c_drawn, c_loop, onw_n, onw_r, onw_e, outb_e, outb_o, outb_n, outb_r, putW_some, putW_none, opsW_arr, opsW_nil, opsW_cons, wanted_none, wanted_some, guardB_some, oneW_next, oneW_move, oneW_assign, oneW_pick, oneW_build, oneW_load, oneW_store, oneW_nilCheck, oneW_binOp, oneW_unOp, oneW_makeFunc, oneW_slice, oneW_fieldAddr, oneW_field, oneW_indexAddr, oneW_index, oneW_lookup, oneW_mapUpdate, oneW_range, oneW_entry, oneW_extract, oneW_call, oneW_alloc, oneW_box, oneW_makeMap, oneW_buildSlice, oneW_convert, Hands, handsV, resultsV, oneOrTuple, argsT, arW_val, ofVal_some, plain_val, cond_true, cond_false,
    aOp_move, aOp_assign, aOp_pick, aOp_build, aOp_load, aOp_store, aOp_nilCheck, aOp_binOp, aOp_unOp, aOp_makeFunc, aOp_slice, aOp_fieldAddr, aOp_field, aOp_indexAddr, aOp_index, aOp_lookup, aOp_mapUpdate, aOp_range, aOp_entry, aOp_extract, aOp_call, aOp_alloc, aOp_box, aOp_makeMap, aOp_buildSlice, aInvoke_func,
    nbeq, nble, nblt, cond_dec, decide_true, decide_false, decide_eq_true_eq, Bool.false_eq_true, Bool.and_true, Bool.true_and, Bool.not_true, Bool.not_false, bq_t, bq_f, ev, evs, evPairs, evOpt, closed, flat, tget_put, Nat.reduceEqDiff, Nat.reduceAdd, Nat.reduceMul, Nat.reduceSub, Nat.reduceLT, Nat.reduceLeDiff, Nat.reduceBEq, reduceIte, if_true, if_false, reduceCtorEq, nth, aCall, aEnter, notYield, aNilCheck, aLoad, partV, isAggD, aFieldAddr, aField, aExtract, b_add, b_sub, b_mul, b_xor, b_eql, b_neq, b_lss, b_leq, b_gtr, b_geq, b_shr, Option.isNone, aBuiltin,
    List.length_cons, List.length_nil, true_implies, false_implies, and_true, true_and, implies_true, forall_const, List.append_nil, List.cons_append, List.nil_append, ASt.get_set, ASt.get_new, ASt.next_set, ASt.next_new, Nat.zero_add, Nat.add_zero, eq_self, ctor_self, ti63, t63_desc, t63_size, ti25, t25_desc, ti22, t22_desc, t22_size, ti59, t59_desc, t59_size, ti60, t60_desc, t60_size, ti61, t61_desc, t61_size, ti3, t3_desc, t3_size, ti40, t40_desc, t40_size, ti33, t33_desc, t33_size, ti9, t9_desc, t9_size, wrow_now, wrow_all, eqnil25, fn17, fn26, fn27, fn28, fn29, fn38, fn39, fn12, fn14, fn15, wti, wfn, wbin, u8, u1, d3, wrap_succ (show i < 1000000 by omega)]
            exact ⟨100 - (i + 1), by omega, i + 1, M, rfl, by omega, by omega, rfl, u0, u7, u5, hwi, hup.mono (by omega), fr⟩
        · have d1 : ((i : Int) < (acts.length : Int)) = True := eq_true (by omega)
          have d2 : ((i : Int) < 100) = False := eq_false (by omega)
          simp only [oneW_next, tg_eq, tgN_eq, brW_true, brW_false, c_skip, c_ret, c_exit, c_seq, c_cond, condW_b, c_block, c_scope, c_region, c_drawn, c_loop, onw_n, onw_r, onw_e, outb_e, outb_o, outb_n, outb_r, putW_some, putW_none, opsW_arr, opsW_nil, opsW_cons, wanted_none, wanted_some, guardB_some, oneW_next, oneW_move, oneW_assign, oneW_pick, oneW_build, oneW_load, oneW_store, oneW_nilCheck, oneW_binOp, oneW_unOp, oneW_makeFunc, oneW_slice, oneW_fieldAddr, oneW_field, oneW_indexAddr, oneW_index, oneW_lookup, oneW_mapUpdate, oneW_range, oneW_entry, oneW_extract, oneW_call, oneW_alloc, oneW_box, oneW_makeMap, oneW_buildSlice, oneW_convert, Hands, handsV, resultsV, oneOrTuple, argsT, arW_val, ofVal_some, plain_val, cond_true, cond_false,
    aOp_move, aOp_assign, aOp_pick, aOp_build, aOp_load, aOp_store, aOp_nilCheck, aOp_binOp, aOp_unOp, aOp_makeFunc, aOp_slice, aOp_fieldAddr, aOp_field, aOp_indexAddr, aOp_index, aOp_lookup, aOp_mapUpdate, aOp_range, aOp_entry, aOp_extract, aOp_call, aOp_alloc, aOp_box, aOp_makeMap, aOp_buildSlice, aInvoke_func,
    nbeq, nble, nblt, cond_dec, decide_true, decide_false, decide_eq_true_eq, Bool.false_eq_true, Bool.and_true, Bool.true_and, Bool.not_true, Bool.not_false, bq_t, bq_f, ev, evs, evPairs, evOpt, closed, flat, tget_put, Nat.reduceEqDiff, Nat.reduceAdd, Nat.reduceMul, Nat.reduceSub, Nat.reduceLT, Nat.reduceLeDiff, Nat.reduceBEq, reduceIte, if_true, if_false, reduceCtorEq, nth, aCall, aEnter, notYield, aNilCheck, aLoad, partV, isAggD, aFieldAddr, aField, aExtract, b_add, b_sub, b_mul, b_xor, b_eql, b_neq, b_lss, b_leq, b_gtr, b_geq, b_shr, Option.isNone, aBuiltin,
    List.length_cons, List.length_nil, true_implies, false_implies, and_true, true_and, implies_true, forall_const, List.append_nil, List.cons_append, List.nil_append, ASt.get_set, ASt.get_new, ASt.next_set, ASt.next_new, Nat.zero_add, Nat.add_zero, eq_self, ctor_self, ti63, t63_desc, t63_size, ti25, t25_desc, ti22, t22_desc, t22_size, ti59, t59_desc, t59_size, ti60, t60_desc, t60_size, ti61, t61_desc, t61_size, ti3, t3_desc, t3_size, ti40, t40_desc, t40_size, ti33, t33_desc, t33_size, ti9, t9_desc, t9_size, wrow_now, wrow_all, eqnil25, fn17, fn26, fn27, fn28, fn29, fn38, fn39, fn12, fn14, fn15, wti, wfn, wbin, u8, u1, hlen, d1, d2]
          have ei : i = 100 := by omega
          subst ei
          exact ⟨_, _, M, rfl, by simp only [tget_put, Nat.reduceEqDiff, if_false, reduceIte]; exact u0, by simp only [tget_put, Nat.reduceEqDiff, if_false, reduceIte]; exact u7, by simp only [tget_put, Nat.reduceEqDiff, if_false, reduceIte]; exact u5, hwi, hup, fr⟩
      · have d1 : ((i : Int) < (acts.length : Int)) = False := eq_false (by omega)
        simp only [oneW_next, tg_eq, tgN_eq, brW_true, brW_false, c_skip, c_ret, c_exit, c_seq, c_cond, condW_b, c_block, c_scope, c_region, c_drawn, c_loop, onw_n, onw_r, onw_e, outb_e, outb_o, outb_n, outb_r, putW_some, putW_none, opsW_arr, opsW_nil, opsW_cons, wanted_none, wanted_some, guardB_some, oneW_next, oneW_move, oneW_assign, oneW_pick, oneW_build, oneW_load, oneW_store, oneW_nilCheck, oneW_binOp, oneW_unOp, oneW_makeFunc, oneW_slice, oneW_fieldAddr, oneW_field, oneW_indexAddr, oneW_index, oneW_lookup, oneW_mapUpdate, oneW_range, oneW_entry, oneW_extract, oneW_call, oneW_alloc, oneW_box, oneW_makeMap, oneW_buildSlice, oneW_convert, Hands, handsV, resultsV, oneOrTuple, argsT, arW_val, ofVal_some, plain_val, cond_true, cond_false,
    aOp_move, aOp_assign, aOp_pick, aOp_build, aOp_load, aOp_store, aOp_nilCheck, aOp_binOp, aOp_unOp, aOp_makeFunc, aOp_slice, aOp_fieldAddr, aOp_field, aOp_indexAddr, aOp_index, aOp_lookup, aOp_mapUpdate, aOp_range, aOp_entry, aOp_extract, aOp_call, aOp_alloc, aOp_box, aOp_makeMap, aOp_buildSlice, aInvoke_func,
    nbeq, nble, nblt, cond_dec, decide_true, decide_false, decide_eq_true_eq, Bool.false_eq_true, Bool.and_true, Bool.true_and, Bool.not_true, Bool.not_false, bq_t, bq_f, ev, evs, evPairs, evOpt, closed, flat, tget_put, Nat.reduceEqDiff, Nat.reduceAdd, Nat.reduceMul, Nat.reduceSub, Nat.reduceLT, Nat.reduceLeDiff, Nat.reduceBEq, reduceIte, if_true, if_false, reduceCtorEq, nth, aCall, aEnter, notYield, aNilCheck, aLoad, partV, isAggD, aFieldAddr, aField, aExtract, b_add, b_sub, b_mul, b_xor, b_eql, b_neq, b_lss, b_leq, b_gtr, b_geq, b_shr, Option.isNone, aBuiltin,
    List.length_cons, List.length_nil, true_implies, false_implies, and_true, true_and, implies_true, forall_const, List.append_nil, List.cons_append, List.nil_append, ASt.get_set, ASt.get_new, ASt.next_set, ASt.next_new, Nat.zero_add, Nat.add_zero, eq_self, ctor_self, ti63, t63_desc, t63_size, ti25, t25_desc, ti22, t22_desc, t22_size, ti59, t59_desc, t59_size, ti60, t60_desc, t60_size, ti61, t61_desc, t61_size, ti3, t3_desc, t3_size, ti40, t40_desc, t40_size, ti33, t33_desc, t33_size, ti9, t9_desc, t9_size, wrow_now, wrow_all, eqnil25, fn17, fn26, fn27, fn28, fn29, fn38, fn39, fn12, fn14, fn15, wti, wfn, wbin, u8, u1, hlen, d1]
        exact ⟨_, _, M, rfl, by simp only [tget_put, Nat.reduceEqDiff, if_false, reduceIte]; exact u0, by simp only [tget_put, Nat.reduceEqDiff, if_false, reduceIte]; exact u7, by simp only [tget_put, Nat.reduceEqDiff, if_false, reduceIte]; exact u5, hwi, hup.mono (by omega), fr⟩
    · simp only [tget_put, Nat.reduceEqDiff, if_false, if_true, reduceIte]; all_goals rfl
    · simp only [tget_put, Nat.reduceEqDiff, if_false, if_true, reduceIte]; all_goals rfl
    · simp only [tget_put, Nat.reduceEqDiff, if_false, if_true, reduceIte]; all_goals rfl
    · simp only [tget_put, Nat.reduceEqDiff, if_false, if_true, reduceIte]
    · simp only [tget_put, Nat.reduceEqDiff, if_false, if_true, reduceIte]
  · rintro o ⟨T1, A1, M, rfl, u0, u7, u5, hw1, hup, fr⟩
    have a5 : A1.get s.length = some (.row [.int .u64 (b0 : Int), .int .u64 (b1 : Int)] 2 false) := by
      rw [fr.get _ hBn hP]; exact bP
    have hi0 : aIndexAddr (withRo E0 s) 38 (.pointer (some ⟨s.length, 0, none⟩)) (.int .i64 0) = some (.pointer (some ⟨s.length, 0, none⟩)) := wix38 (k := 0) (by omega)
    have hi1 : aIndexAddr (withRo E0 s) 38 (.pointer (some ⟨s.length, 0, none⟩)) (.int .i64 1) = some (.pointer (some ⟨s.length, 1, none⟩)) := wix38 (k := 1) (by omega)
    simp only [oneW_next, tg_eq, tgN_eq, brW_true, brW_false, c_skip, c_ret, c_exit, c_seq, c_cond, condW_b, c_block, c_scope, c_region, c_drawn, c_loop, onw_n, onw_r, onw_e, outb_e, outb_o, outb_n, outb_r, putW_some, putW_none, opsW_arr, opsW_nil, opsW_cons, wanted_none, wanted_some, guardB_some, oneW_next, oneW_move, oneW_assign, oneW_pick, oneW_build, oneW_load, oneW_store, oneW_nilCheck, oneW_binOp, oneW_unOp, oneW_makeFunc, oneW_slice, oneW_fieldAddr, oneW_field, oneW_indexAddr, oneW_index, oneW_lookup, oneW_mapUpdate, oneW_range, oneW_entry, oneW_extract, oneW_call, oneW_alloc, oneW_box, oneW_makeMap, oneW_buildSlice, oneW_convert, Hands, handsV, resultsV, oneOrTuple, argsT, arW_val, ofVal_some, plain_val, cond_true, cond_false,
    aOp_move, aOp_assign, aOp_pick, aOp_build, aOp_load, aOp_store, aOp_nilCheck, aOp_binOp, aOp_unOp, aOp_makeFunc, aOp_slice, aOp_fieldAddr, aOp_field, aOp_indexAddr, aOp_index, aOp_lookup, aOp_mapUpdate, aOp_range, aOp_entry, aOp_extract, aOp_call, aOp_alloc, aOp_box, aOp_makeMap, aOp_buildSlice, aInvoke_func,
    nbeq, nble, nblt, cond_dec, decide_true, decide_false, decide_eq_true_eq, Bool.false_eq_true, Bool.and_true, Bool.true_and, Bool.not_true, Bool.not_false, bq_t, bq_f, ev, evs, evPairs, evOpt, closed, flat, tget_put, Nat.reduceEqDiff, Nat.reduceAdd, Nat.reduceMul, Nat.reduceSub, Nat.reduceLT, Nat.reduceLeDiff, Nat.reduceBEq, reduceIte, if_true, if_false, reduceCtorEq, nth, aCall, aEnter, notYield, aNilCheck, aLoad, partV, isAggD, aFieldAddr, aField, aExtract, b_add, b_sub, b_mul, b_xor, b_eql, b_neq, b_lss, b_leq, b_gtr, b_geq, b_shr, Option.isNone, aBuiltin,
    List.length_cons, List.length_nil, true_implies, false_implies, and_true, true_and, implies_true, forall_const, List.append_nil, List.cons_append, List.nil_append, ASt.get_set, ASt.get_new, ASt.next_set, ASt.next_new, Nat.zero_add, Nat.add_zero, eq_self, ctor_self, ti63, t63_desc, t63_size, ti25, t25_desc, ti22, t22_desc, t22_size, ti59, t59_desc, t59_size, ti60, t60_desc, t60_size, ti61, t61_desc, t61_size, ti3, t3_desc, t3_size, ti40, t40_desc, t40_size, ti33, t33_desc, t33_size, ti9, t9_desc, t9_size, wrow_now, wrow_all, eqnil25, fn17, fn26, fn27, fn28, fn29, fn38, fn39, fn12, fn14, fn15, wti, wfn, wbin, u0, u5, u7, hi0, a5, fn11]
    refine CallT.mono (later_spec hnow hb0) ?_
    rintro _ _ ⟨rfl, rfl⟩
    simp only [oneW_next, tg_eq, tgN_eq, brW_true, brW_false, c_skip, c_ret, c_exit, c_seq, c_cond, condW_b, c_block, c_scope, c_region, c_drawn, c_loop, onw_n, onw_r, onw_e, outb_e, outb_o, outb_n, outb_r, putW_some, putW_none, opsW_arr, opsW_nil, opsW_cons, wanted_none, wanted_some, guardB_some, oneW_next, oneW_move, oneW_assign, oneW_pick, oneW_build, oneW_load, oneW_store, oneW_nilCheck, oneW_binOp, oneW_unOp, oneW_makeFunc, oneW_slice, oneW_fieldAddr, oneW_field, oneW_indexAddr, oneW_index, oneW_lookup, oneW_mapUpdate, oneW_range, oneW_entry, oneW_extract, oneW_call, oneW_alloc, oneW_box, oneW_makeMap, oneW_buildSlice, oneW_convert, Hands, handsV, resultsV, oneOrTuple, argsT, arW_val, ofVal_some, plain_val, cond_true, cond_false,
    aOp_move, aOp_assign, aOp_pick, aOp_build, aOp_load, aOp_store, aOp_nilCheck, aOp_binOp, aOp_unOp, aOp_makeFunc, aOp_slice, aOp_fieldAddr, aOp_field, aOp_indexAddr, aOp_index, aOp_lookup, aOp_mapUpdate, aOp_range, aOp_entry, aOp_extract, aOp_call, aOp_alloc, aOp_box, aOp_makeMap, aOp_buildSlice, aInvoke_func,
    nbeq, nble, nblt, cond_dec, decide_true, decide_false, decide_eq_true_eq, Bool.false_eq_true, Bool.and_true, Bool.true_and, Bool.not_true, Bool.not_false, bq_t, bq_f, ev, evs, evPairs, evOpt, closed, flat, tget_put, Nat.reduceEqDiff, Nat.reduceAdd, Nat.reduceMul, Nat.reduceSub, Nat.reduceLT, Nat.reduceLeDiff, Nat.reduceBEq, reduceIte, if_true, if_false, reduceCtorEq, nth, aCall, aEnter, notYield, aNilCheck, aLoad, partV, isAggD, aFieldAddr, aField, aExtract, b_add, b_sub, b_mul, b_xor, b_eql, b_neq, b_lss, b_leq, b_gtr, b_geq, b_shr, Option.isNone, aBuiltin,
    List.length_cons, List.length_nil, true_implies, false_implies, and_true, true_and, implies_true, forall_const, List.append_nil, List.cons_append, List.nil_append, ASt.get_set, ASt.get_new, ASt.next_set, ASt.next_new, Nat.zero_add, Nat.add_zero, eq_self, ctor_self, ti63, t63_desc, t63_size, ti25, t25_desc, ti22, t22_desc, t22_size, ti59, t59_desc, t59_size, ti60, t60_desc, t60_size, ti61, t61_desc, t61_size, ti3, t3_desc, t3_size, ti40, t40_desc, t40_size, ti33, t33_desc, t33_size, ti9, t9_desc, t9_size, wrow_now, wrow_all, eqnil25, fn17, fn26, fn27, fn28, fn29, fn38, fn39, fn12, fn14, fn15, wti, wfn, wbin, u0, u5, u7, hi1, a5, fn11]
    refine CallT.mono (later_spec hnow hb1) ?_
    rintro _ _ ⟨rfl, rfl⟩
    have ha := lat_lt (b := b0) hnow
    have hb := lat_lt (b := b1) hnow
    generalize lat now b0 = a at ha ⊢
    generalize lat now b1 = b at hb ⊢
    simp only [oneW_next, tg_eq, tgN_eq, brW_true, brW_false, c_skip, c_ret, c_exit, c_seq, c_cond, condW_b, c_block, c_scope, c_region, c_drawn, c_loop, onw_n, onw_r, onw_e, outb_e, outb_o, outb_n, outb_r, putW_some, putW_none, opsW_arr, opsW_nil, opsW_cons, wanted_none, wanted_some, guardB_some, oneW_next, oneW_move, oneW_assign, oneW_pick, oneW_build, oneW_load, oneW_store, oneW_nilCheck, oneW_binOp, oneW_unOp, oneW_makeFunc, oneW_slice, oneW_fieldAddr, oneW_field, oneW_indexAddr, oneW_index, oneW_lookup, oneW_mapUpdate, oneW_range, oneW_entry, oneW_extract, oneW_call, oneW_alloc, oneW_box, oneW_makeMap, oneW_buildSlice, oneW_convert, Hands, handsV, resultsV, oneOrTuple, argsT, arW_val, ofVal_some, plain_val, cond_true, cond_false,
    aOp_move, aOp_assign, aOp_pick, aOp_build, aOp_load, aOp_store, aOp_nilCheck, aOp_binOp, aOp_unOp, aOp_makeFunc, aOp_slice, aOp_fieldAddr, aOp_field, aOp_indexAddr, aOp_index, aOp_lookup, aOp_mapUpdate, aOp_range, aOp_entry, aOp_extract, aOp_call, aOp_alloc, aOp_box, aOp_makeMap, aOp_buildSlice, aInvoke_func,
    nbeq, nble, nblt, cond_dec, decide_true, decide_false, decide_eq_true_eq, Bool.false_eq_true, Bool.and_true, Bool.true_and, Bool.not_true, Bool.not_false, bq_t, bq_f, ev, evs, evPairs, evOpt, closed, flat, tget_put, Nat.reduceEqDiff, Nat.reduceAdd, Nat.reduceMul, Nat.reduceSub, Nat.reduceLT, Nat.reduceLeDiff, Nat.reduceBEq, reduceIte, if_true, if_false, reduceCtorEq, nth, aCall, aEnter, notYield, aNilCheck, aLoad, partV, isAggD, aFieldAddr, aField, aExtract, b_add, b_sub, b_mul, b_xor, b_eql, b_neq, b_lss, b_leq, b_gtr, b_geq, b_shr, Option.isNone, aBuiltin,
    List.length_cons, List.length_nil, true_implies, false_implies, and_true, true_and, implies_true, forall_const, List.append_nil, List.cons_append, List.nil_append, ASt.get_set, ASt.get_new, ASt.next_set, ASt.next_new, Nat.zero_add, Nat.add_zero, eq_self, ctor_self, ti63, t63_desc, t63_size, ti25, t25_desc, ti22, t22_desc, t22_size, ti59, t59_desc, t59_size, ti60, t60_desc, t60_size, ti61, t61_desc, t61_size, ti3, t3_desc, t3_size, ti40, t40_desc, t40_size, ti33, t33_desc, t33_size, ti9, t9_desc, t9_size, wrow_now, wrow_all, eqnil25, fn17, fn26, fn27, fn28, fn29, fn38, fn39, fn12, fn14, fn15, wti, wfn, wbin, u0, u5, u7]
    refine CallT.mono (len_spec hw1) ?_
    rintro _ _ ⟨⟨n, rfl, hn⟩, rfl⟩
    simp only [oneW_next, tg_eq, tgN_eq, brW_true, brW_false, c_skip, c_ret, c_exit, c_seq, c_cond, condW_b, c_block, c_scope, c_region, c_drawn, c_loop, onw_n, onw_r, onw_e, outb_e, outb_o, outb_n, outb_r, putW_some, putW_none, opsW_arr, opsW_nil, opsW_cons, wanted_none, wanted_some, guardB_some, oneW_next, oneW_move, oneW_assign, oneW_pick, oneW_build, oneW_load, oneW_store, oneW_nilCheck, oneW_binOp, oneW_unOp, oneW_makeFunc, oneW_slice, oneW_fieldAddr, oneW_field, oneW_indexAddr, oneW_index, oneW_lookup, oneW_mapUpdate, oneW_range, oneW_entry, oneW_extract, oneW_call, oneW_alloc, oneW_box, oneW_makeMap, oneW_buildSlice, oneW_convert, Hands, handsV, resultsV, oneOrTuple, argsT, arW_val, ofVal_some, plain_val, cond_true, cond_false,
    aOp_move, aOp_assign, aOp_pick, aOp_build, aOp_load, aOp_store, aOp_nilCheck, aOp_binOp, aOp_unOp, aOp_makeFunc, aOp_slice, aOp_fieldAddr, aOp_field, aOp_indexAddr, aOp_index, aOp_lookup, aOp_mapUpdate, aOp_range, aOp_entry, aOp_extract, aOp_call, aOp_alloc, aOp_box, aOp_makeMap, aOp_buildSlice, aInvoke_func,
    nbeq, nble, nblt, cond_dec, decide_true, decide_false, decide_eq_true_eq, Bool.false_eq_true, Bool.and_true, Bool.true_and, Bool.not_true, Bool.not_false, bq_t, bq_f, ev, evs, evPairs, evOpt, closed, flat, tget_put, Nat.reduceEqDiff, Nat.reduceAdd, Nat.reduceMul, Nat.reduceSub, Nat.reduceLT, Nat.reduceLeDiff, Nat.reduceBEq, reduceIte, if_true, if_false, reduceCtorEq, nth, aCall, aEnter, notYield, aNilCheck, aLoad, partV, isAggD, aFieldAddr, aField, aExtract, b_add, b_sub, b_mul, b_xor, b_eql, b_neq, b_lss, b_leq, b_gtr, b_geq, b_shr, Option.isNone, aBuiltin,
    List.length_cons, List.length_nil, true_implies, false_implies, and_true, true_and, implies_true, forall_const, List.append_nil, List.cons_append, List.nil_append, ASt.get_set, ASt.get_new, ASt.next_set, ASt.next_new, Nat.zero_add, Nat.add_zero, eq_self, ctor_self, ti63, t63_desc, t63_size, ti25, t25_desc, ti22, t22_desc, t22_size, ti59, t59_desc, t59_size, ti60, t60_desc, t60_size, ti61, t61_desc, t61_size, ti3, t3_desc, t3_size, ti40, t40_desc, t40_size, ti33, t33_desc, t33_size, ti9, t9_desc, t9_size, wrow_now, wrow_all, eqnil25, fn17, fn26, fn27, fn28, fn29, fn38, fn39, fn12, fn14, fn15, wti, wfn, wbin, u0, u5, u7]
    refine CallT.mono (drop_spec hw1 mine) ?_
    rintro _ A2 ⟨rfl, hw2, f2⟩
    simp only [oneW_next, tg_eq, tgN_eq, brW_true, brW_false, c_skip, c_ret, c_exit, c_seq, c_cond, condW_b, c_block, c_scope, c_region, c_drawn, c_loop, onw_n, onw_r, onw_e, outb_e, outb_o, outb_n, outb_r, putW_some, putW_none, opsW_arr, opsW_nil, opsW_cons, wanted_none, wanted_some, guardB_some, oneW_next, oneW_move, oneW_assign, oneW_pick, oneW_build, oneW_load, oneW_store, oneW_nilCheck, oneW_binOp, oneW_unOp, oneW_makeFunc, oneW_slice, oneW_fieldAddr, oneW_field, oneW_indexAddr, oneW_index, oneW_lookup, oneW_mapUpdate, oneW_range, oneW_entry, oneW_extract, oneW_call, oneW_alloc, oneW_box, oneW_makeMap, oneW_buildSlice, oneW_convert, Hands, handsV, resultsV, oneOrTuple, argsT, arW_val, ofVal_some, plain_val, cond_true, cond_false,
    aOp_move, aOp_assign, aOp_pick, aOp_build, aOp_load, aOp_store, aOp_nilCheck, aOp_binOp, aOp_unOp, aOp_makeFunc, aOp_slice, aOp_fieldAddr, aOp_field, aOp_indexAddr, aOp_index, aOp_lookup, aOp_mapUpdate, aOp_range, aOp_entry, aOp_extract, aOp_call, aOp_alloc, aOp_box, aOp_makeMap, aOp_buildSlice, aInvoke_func,
    nbeq, nble, nblt, cond_dec, decide_true, decide_false, decide_eq_true_eq, Bool.false_eq_true, Bool.and_true, Bool.true_and, Bool.not_true, Bool.not_false, bq_t, bq_f, ev, evs, evPairs, evOpt, closed, flat, tget_put, Nat.reduceEqDiff, Nat.reduceAdd, Nat.reduceMul, Nat.reduceSub, Nat.reduceLT, Nat.reduceLeDiff, Nat.reduceBEq, reduceIte, if_true, if_false, reduceCtorEq, nth, aCall, aEnter, notYield, aNilCheck, aLoad, partV, isAggD, aFieldAddr, aField, aExtract, b_add, b_sub, b_mul, b_xor, b_eql, b_neq, b_lss, b_leq, b_gtr, b_geq, b_shr, Option.isNone, aBuiltin,
    List.length_cons, List.length_nil, true_implies, false_implies, and_true, true_and, implies_true, forall_const, List.append_nil, List.cons_append, List.nil_append, ASt.get_set, ASt.get_new, ASt.next_set, ASt.next_new, Nat.zero_add, Nat.add_zero, eq_self, ctor_self, ti63, t63_desc, t63_size, ti25, t25_desc, ti22, t22_desc, t22_size, ti59, t59_desc, t59_size, ti60, t60_desc, t60_size, ti61, t61_desc, t61_size, ti3, t3_desc, t3_size, ti40, t40_desc, t40_size, ti33, t33_desc, t33_size, ti9, t9_desc, t9_size, wrow_now, wrow_all, eqnil25, fn17, fn26, fn27, fn28, fn29, fn38, fn39, fn12, fn14, fn15, wti, wfn, wbin, u0, u5, u7]
    refine CallT.mono (put_spec hw2 mine ha) ?_
    rintro _ A3 ⟨rfl, hw3, f3⟩
    simp only [oneW_next, tg_eq, tgN_eq, brW_true, brW_false, c_skip, c_ret, c_exit, c_seq, c_cond, condW_b, c_block, c_scope, c_region, c_drawn, c_loop, onw_n, onw_r, onw_e, outb_e, outb_o, outb_n, outb_r, putW_some, putW_none, opsW_arr, opsW_nil, opsW_cons, wanted_none, wanted_some, guardB_some, oneW_next, oneW_move, oneW_assign, oneW_pick, oneW_build, oneW_load, oneW_store, oneW_nilCheck, oneW_binOp, oneW_unOp, oneW_makeFunc, oneW_slice, oneW_fieldAddr, oneW_field, oneW_indexAddr, oneW_index, oneW_lookup, oneW_mapUpdate, oneW_range, oneW_entry, oneW_extract, oneW_call, oneW_alloc, oneW_box, oneW_makeMap, oneW_buildSlice, oneW_convert, Hands, handsV, resultsV, oneOrTuple, argsT, arW_val, ofVal_some, plain_val, cond_true, cond_false,
    aOp_move, aOp_assign, aOp_pick, aOp_build, aOp_load, aOp_store, aOp_nilCheck, aOp_binOp, aOp_unOp, aOp_makeFunc, aOp_slice, aOp_fieldAddr, aOp_field, aOp_indexAddr, aOp_index, aOp_lookup, aOp_mapUpdate, aOp_range, aOp_entry, aOp_extract, aOp_call, aOp_alloc, aOp_box, aOp_makeMap, aOp_buildSlice, aInvoke_func,
    nbeq, nble, nblt, cond_dec, decide_true, decide_false, decide_eq_true_eq, Bool.false_eq_true, Bool.and_true, Bool.true_and, Bool.not_true, Bool.not_false, bq_t, bq_f, ev, evs, evPairs, evOpt, closed, flat, tget_put, Nat.reduceEqDiff, Nat.reduceAdd, Nat.reduceMul, Nat.reduceSub, Nat.reduceLT, Nat.reduceLeDiff, Nat.reduceBEq, reduceIte, if_true, if_false, reduceCtorEq, nth, aCall, aEnter, notYield, aNilCheck, aLoad, partV, isAggD, aFieldAddr, aField, aExtract, b_add, b_sub, b_mul, b_xor, b_eql, b_neq, b_lss, b_leq, b_gtr, b_geq, b_shr, Option.isNone, aBuiltin,
    List.length_cons, List.length_nil, true_implies, false_implies, and_true, true_and, implies_true, forall_const, List.append_nil, List.cons_append, List.nil_append, ASt.get_set, ASt.get_new, ASt.next_set, ASt.next_new, Nat.zero_add, Nat.add_zero, eq_self, ctor_self, ti63, t63_desc, t63_size, ti25, t25_desc, ti22, t22_desc, t22_size, ti59, t59_desc, t59_size, ti60, t60_desc, t60_size, ti61, t61_desc, t61_size, ti3, t3_desc, t3_size, ti40, t40_desc, t40_size, ti33, t33_desc, t33_size, ti9, t9_desc, t9_size, wrow_now, wrow_all, eqnil25, fn17, fn26, fn27, fn28, fn29, fn38, fn39, fn12, fn14, fn15, wti, wfn, wbin, u0, u5, u7]
    refine CallT.mono (put_spec hw3 mine hb) ?_
    rintro _ A4 ⟨rfl, hw4, f4⟩
    simp only [oneW_next, tg_eq, tgN_eq, brW_true, brW_false, c_skip, c_ret, c_exit, c_seq, c_cond, condW_b, c_block, c_scope, c_region, c_drawn, c_loop, onw_n, onw_r, onw_e, outb_e, outb_o, outb_n, outb_r, putW_some, putW_none, opsW_arr, opsW_nil, opsW_cons, wanted_none, wanted_some, guardB_some, oneW_next, oneW_move, oneW_assign, oneW_pick, oneW_build, oneW_load, oneW_store, oneW_nilCheck, oneW_binOp, oneW_unOp, oneW_makeFunc, oneW_slice, oneW_fieldAddr, oneW_field, oneW_indexAddr, oneW_index, oneW_lookup, oneW_mapUpdate, oneW_range, oneW_entry, oneW_extract, oneW_call, oneW_alloc, oneW_box, oneW_makeMap, oneW_buildSlice, oneW_convert, Hands, handsV, resultsV, oneOrTuple, argsT, arW_val, ofVal_some, plain_val, cond_true, cond_false,
    aOp_move, aOp_assign, aOp_pick, aOp_build, aOp_load, aOp_store, aOp_nilCheck, aOp_binOp, aOp_unOp, aOp_makeFunc, aOp_slice, aOp_fieldAddr, aOp_field, aOp_indexAddr, aOp_index, aOp_lookup, aOp_mapUpdate, aOp_range, aOp_entry, aOp_extract, aOp_call, aOp_alloc, aOp_box, aOp_makeMap, aOp_buildSlice, aInvoke_func,
    nbeq, nble, nblt, cond_dec, decide_true, decide_false, decide_eq_true_eq, Bool.false_eq_true, Bool.and_true, Bool.true_and, Bool.not_true, Bool.not_false, bq_t, bq_f, ev, evs, evPairs, evOpt, closed, flat, tget_put, Nat.reduceEqDiff, Nat.reduceAdd, Nat.reduceMul, Nat.reduceSub, Nat.reduceLT, Nat.reduceLeDiff, Nat.reduceBEq, reduceIte, if_true, if_false, reduceCtorEq, nth, aCall, aEnter, notYield, aNilCheck, aLoad, partV, isAggD, aFieldAddr, aField, aExtract, b_add, b_sub, b_mul, b_xor, b_eql, b_neq, b_lss, b_leq, b_gtr, b_geq, b_shr, Option.isNone, aBuiltin,
    List.length_cons, List.length_nil, true_implies, false_implies, and_true, true_and, implies_true, forall_const, List.append_nil, List.cons_append, List.nil_append, ASt.get_set, ASt.get_new, ASt.next_set, ASt.next_new, Nat.zero_add, Nat.add_zero, eq_self, ctor_self, ti63, t63_desc, t63_size, ti25, t25_desc, ti22, t22_desc, t22_size, ti59, t59_desc, t59_size, ti60, t60_desc, t60_size, ti61, t61_desc, t61_size, ti3, t3_desc, t3_size, ti40, t40_desc, t40_size, ti33, t33_desc, t33_size, ti9, t9_desc, t9_size, wrow_now, wrow_all, eqnil25, fn17, fn26, fn27, fn28, fn29, fn38, fn39, fn12, fn14, fn15, wti, wfn, wbin, u0, u5, u7]
    refine CallT.mono (put_spec hw4 mine hnow) ?_
    rintro _ A5 ⟨rfl, hw5, f5⟩
    simp only [Nat.lt_irrefl, if_false] at hw5
    simp only [oneW_next, tg_eq, tgN_eq, brW_true, brW_false, c_skip, c_ret, c_exit, c_seq, c_cond, condW_b, c_block, c_scope, c_region, c_drawn, c_loop, onw_n, onw_r, onw_e, outb_e, outb_o, outb_n, outb_r, putW_some, putW_none, opsW_arr, opsW_nil, opsW_cons, wanted_none, wanted_some, guardB_some, oneW_next, oneW_move, oneW_assign, oneW_pick, oneW_build, oneW_load, oneW_store, oneW_nilCheck, oneW_binOp, oneW_unOp, oneW_makeFunc, oneW_slice, oneW_fieldAddr, oneW_field, oneW_indexAddr, oneW_index, oneW_lookup, oneW_mapUpdate, oneW_range, oneW_entry, oneW_extract, oneW_call, oneW_alloc, oneW_box, oneW_makeMap, oneW_buildSlice, oneW_convert, Hands, handsV, resultsV, oneOrTuple, argsT, arW_val, ofVal_some, plain_val, cond_true, cond_false,
    aOp_move, aOp_assign, aOp_pick, aOp_build, aOp_load, aOp_store, aOp_nilCheck, aOp_binOp, aOp_unOp, aOp_makeFunc, aOp_slice, aOp_fieldAddr, aOp_field, aOp_indexAddr, aOp_index, aOp_lookup, aOp_mapUpdate, aOp_range, aOp_entry, aOp_extract, aOp_call, aOp_alloc, aOp_box, aOp_makeMap, aOp_buildSlice, aInvoke_func,
    nbeq, nble, nblt, cond_dec, decide_true, decide_false, decide_eq_true_eq, Bool.false_eq_true, Bool.and_true, Bool.true_and, Bool.not_true, Bool.not_false, bq_t, bq_f, ev, evs, evPairs, evOpt, closed, flat, tget_put, Nat.reduceEqDiff, Nat.reduceAdd, Nat.reduceMul, Nat.reduceSub, Nat.reduceLT, Nat.reduceLeDiff, Nat.reduceBEq, reduceIte, if_true, if_false, reduceCtorEq, nth, aCall, aEnter, notYield, aNilCheck, aLoad, partV, isAggD, aFieldAddr, aField, aExtract, b_add, b_sub, b_mul, b_xor, b_eql, b_neq, b_lss, b_leq, b_gtr, b_geq, b_shr, Option.isNone, aBuiltin,
    List.length_cons, List.length_nil, true_implies, false_implies, and_true, true_and, implies_true, forall_const, List.append_nil, List.cons_append, List.nil_append, ASt.get_set, ASt.get_new, ASt.next_set, ASt.next_new, Nat.zero_add, Nat.add_zero, eq_self, ctor_self, ti63, t63_desc, t63_size, ti25, t25_desc, ti22, t22_desc, t22_size, ti59, t59_desc, t59_size, ti60, t60_desc, t60_size, ti61, t61_desc, t61_size, ti3, t3_desc, t3_size, ti40, t40_desc, t40_size, ti33, t33_desc, t33_size, ti9, t9_desc, t9_size, wrow_now, wrow_all, eqnil25, fn17, fn26, fn27, fn28, fn29, fn38, fn39, fn12, fn14, fn15, wti, wfn, wbin, u0, u5, u7]
    refine CallT.mono (len_spec hw5) ?_
    rintro _ A6 ⟨⟨m, rfl, hm⟩, rfl⟩
    have hp : (decide (now < a) != decide ((a : Int) > (now : Int))) = false := by
      have : decide (now < a) = decide ((a : Int) > (now : Int)) := decide_eq_decide.2 (by omega)
      rw [this]; simp
    have hq : (decide (now < b) != decide ((b : Int) > (now : Int))) = false := by
      have : decide (now < b) = decide ((b : Int) > (now : Int)) := decide_eq_decide.2 (by omega)
      rw [this]; simp
    have hz : decide (now < now) = false := by simp
    have hn100 : ((n : Int) > 100) = False := eq_false (by have := cnt_upto hn hup; omega)
    refine putW_abs (n := 152) (d := 85) (fun T => tget T 0 = .int .u64 (now : Int) ∧ tget T 7 = .pointer (some ⟨W, 0, none⟩) ∧ tget T 9 = .int .u64 (a : Int) ∧ tget T 10 = .int .u64 (b : Int) ∧ tget T 11 = .int .i64 (n : Int) ∧ tget T 12 = .bool (decide (now < a)) ∧ tget T 13 = .bool (decide (now < b)) ∧ tget T 14 = .bool false ∧ tget T 85 = .int .i64 (m : Int)) (by decide) (by simp only [tget_put, Nat.reduceEqDiff, if_false, if_true, reduceIte, u0, u7, hz, and_self]) ?_
    rintro T2 ⟨v0, v7, v9, v10, v11, v12, v13, v14, v85⟩
    simp only [oneW_next, tg_eq, tgN_eq, brW_true, brW_false, c_skip, c_ret, c_exit, c_seq, c_cond, condW_b, c_block, c_scope, c_region, c_drawn, c_loop, onw_n, onw_r, onw_e, outb_e, outb_o, outb_n, outb_r, putW_some, putW_none, opsW_arr, opsW_nil, opsW_cons, wanted_none, wanted_some, guardB_some, oneW_next, oneW_move, oneW_assign, oneW_pick, oneW_build, oneW_load, oneW_store, oneW_nilCheck, oneW_binOp, oneW_unOp, oneW_makeFunc, oneW_slice, oneW_fieldAddr, oneW_field, oneW_indexAddr, oneW_index, oneW_lookup, oneW_mapUpdate, oneW_range, oneW_entry, oneW_extract, oneW_call, oneW_alloc, oneW_box, oneW_makeMap, oneW_buildSlice, oneW_convert, Hands, handsV, resultsV, oneOrTuple, argsT, arW_val, ofVal_some, plain_val, cond_true, cond_false,
    aOp_move, aOp_assign, aOp_pick, aOp_build, aOp_load, aOp_store, aOp_nilCheck, aOp_binOp, aOp_unOp, aOp_makeFunc, aOp_slice, aOp_fieldAddr, aOp_field, aOp_indexAddr, aOp_index, aOp_lookup, aOp_mapUpdate, aOp_range, aOp_entry, aOp_extract, aOp_call, aOp_alloc, aOp_box, aOp_makeMap, aOp_buildSlice, aInvoke_func,
    nbeq, nble, nblt, cond_dec, decide_true, decide_false, decide_eq_true_eq, Bool.false_eq_true, Bool.and_true, Bool.true_and, Bool.not_true, Bool.not_false, bq_t, bq_f, ev, evs, evPairs, evOpt, closed, flat, tget_put, Nat.reduceEqDiff, Nat.reduceAdd, Nat.reduceMul, Nat.reduceSub, Nat.reduceLT, Nat.reduceLeDiff, Nat.reduceBEq, reduceIte, if_true, if_false, reduceCtorEq, nth, aCall, aEnter, notYield, aNilCheck, aLoad, partV, isAggD, aFieldAddr, aField, aExtract, b_add, b_sub, b_mul, b_xor, b_eql, b_neq, b_lss, b_leq, b_gtr, b_geq, b_shr, Option.isNone, aBuiltin,
    List.length_cons, List.length_nil, true_implies, false_implies, and_true, true_and, implies_true, forall_const, List.append_nil, List.cons_append, List.nil_append, ASt.get_set, ASt.get_new, ASt.next_set, ASt.next_new, Nat.zero_add, Nat.add_zero, eq_self, ctor_self, ti63, t63_desc, t63_size, ti25, t25_desc, ti22, t22_desc, t22_size, ti59, t59_desc, t59_size, ti60, t60_desc, t60_size, ti61, t61_desc, t61_size, ti3, t3_desc, t3_size, ti40, t40_desc, t40_size, ti33, t33_desc, t33_size, ti9, t9_desc, t9_size, wrow_now, wrow_all, eqnil25, fn17, fn26, fn27, fn28, fn29, fn38, fn39, fn12, fn14, fn15, wti, wfn, wbin, v0, v7, v9, v10, v11, v12, v13, v14, v85, b_neqB, hp, hq, hn100]
    refine brW_join (fun T' A' => tget T' 16 = .int .u64 ((if now < b then b else a : Nat) : Int) ∧ tget T' 7 = .pointer (some ⟨W, 0, none⟩) ∧ tget T' 12 = .bool (decide (now < a)) ∧ tget T' 13 = .bool (decide (now < b)) ∧ tget T' 15 = .int .i64 (m : Int) ∧ A' = A6) (fun h => ?_) (fun h => ?_) ?_
    · have h' := of_decide_eq_true h
      rw [if_pos h']
      simp only [oneW_next, tg_eq, tgN_eq, brW_true, brW_false, c_skip, c_ret, c_exit, c_seq, c_cond, condW_b, c_block, c_scope, c_region, c_drawn, c_loop, onw_n, onw_r, onw_e, outb_e, outb_o, outb_n, outb_r, putW_some, putW_none, opsW_arr, opsW_nil, opsW_cons, wanted_none, wanted_some, guardB_some, oneW_next, oneW_move, oneW_assign, oneW_pick, oneW_build, oneW_load, oneW_store, oneW_nilCheck, oneW_binOp, oneW_unOp, oneW_makeFunc, oneW_slice, oneW_fieldAddr, oneW_field, oneW_indexAddr, oneW_index, oneW_lookup, oneW_mapUpdate, oneW_range, oneW_entry, oneW_extract, oneW_call, oneW_alloc, oneW_box, oneW_makeMap, oneW_buildSlice, oneW_convert, Hands, handsV, resultsV, oneOrTuple, argsT, arW_val, ofVal_some, plain_val, cond_true, cond_false,
    aOp_move, aOp_assign, aOp_pick, aOp_build, aOp_load, aOp_store, aOp_nilCheck, aOp_binOp, aOp_unOp, aOp_makeFunc, aOp_slice, aOp_fieldAddr, aOp_field, aOp_indexAddr, aOp_index, aOp_lookup, aOp_mapUpdate, aOp_range, aOp_entry, aOp_extract, aOp_call, aOp_alloc, aOp_box, aOp_makeMap, aOp_buildSlice, aInvoke_func,
    nbeq, nble, nblt, cond_dec, decide_true, decide_false, decide_eq_true_eq, Bool.false_eq_true, Bool.and_true, Bool.true_and, Bool.not_true, Bool.not_false, bq_t, bq_f, ev, evs, evPairs, evOpt, closed, flat, tget_put, Nat.reduceEqDiff, Nat.reduceAdd, Nat.reduceMul, Nat.reduceSub, Nat.reduceLT, Nat.reduceLeDiff, Nat.reduceBEq, reduceIte, if_true, if_false, reduceCtorEq, nth, aCall, aEnter, notYield, aNilCheck, aLoad, partV, isAggD, aFieldAddr, aField, aExtract, b_add, b_sub, b_mul, b_xor, b_eql, b_neq, b_lss, b_leq, b_gtr, b_geq, b_shr, Option.isNone, aBuiltin,
    List.length_cons, List.length_nil, true_implies, false_implies, and_true, true_and, implies_true, forall_const, List.append_nil, List.cons_append, List.nil_append, ASt.get_set, ASt.get_new, ASt.next_set, ASt.next_new, Nat.zero_add, Nat.add_zero, eq_self, ctor_self, ti63, t63_desc, t63_size, ti25, t25_desc, ti22, t22_desc, t22_size, ti59, t59_desc, t59_size, ti60, t60_desc, t60_size, ti61, t61_desc, t61_size, ti3, t3_desc, t3_size, ti40, t40_desc, t40_size, ti33, t33_desc, t33_size, ti9, t9_desc, t9_size, wrow_now, wrow_all, eqnil25, fn17, fn26, fn27, fn28, fn29, fn38, fn39, fn12, fn14, fn15, wti, wfn, wbin, v0, v7, v9, v10, v11, v12, v13, v14, v85, b_neqB, hp, hq, hn100]
      exact ⟨_, _, rfl, by simp only [tget_put, Nat.reduceEqDiff, if_false, if_true, reduceIte, wti, wfn, wbin, v0, v7, v9, v10, v11, v12, v13, v14, v85, b_neqB, hp, hq, hn100], by simp only [tget_put, Nat.reduceEqDiff, if_false, if_true, reduceIte, wti, wfn, wbin, v0, v7, v9, v10, v11, v12, v13, v14, v85, b_neqB, hp, hq, hn100], by simp only [tget_put, Nat.reduceEqDiff, if_false, if_true, reduceIte, wti, wfn, wbin, v0, v7, v9, v10, v11, v12, v13, v14, v85, b_neqB, hp, hq, hn100], by simp only [tget_put, Nat.reduceEqDiff, if_false, if_true, reduceIte, wti, wfn, wbin, v0, v7, v9, v10, v11, v12, v13, v14, v85, b_neqB, hp, hq, hn100], by simp only [tget_put, Nat.reduceEqDiff, if_false, if_true, reduceIte, wti, wfn, wbin, v0, v7, v9, v10, v11, v12, v13, v14, v85, b_neqB, hp, hq, hn100], rfl⟩
    · have h' := of_decide_eq_false h
      rw [if_neg h']
      exact codeW_skip ⟨_, _, rfl, by simp only [tget_put, Nat.reduceEqDiff, if_false, if_true, reduceIte, wti, wfn, wbin, v0, v7, v9, v10, v11, v12, v13, v14, v85, b_neqB, hp, hq, hn100], by simp only [tget_put, Nat.reduceEqDiff, if_false, if_true, reduceIte, wti, wfn, wbin, v0, v7, v9, v10, v11, v12, v13, v14, v85, b_neqB, hp, hq, hn100], by simp only [tget_put, Nat.reduceEqDiff, if_false, if_true, reduceIte, wti, wfn, wbin, v0, v7, v9, v10, v11, v12, v13, v14, v85, b_neqB, hp, hq, hn100], by simp only [tget_put, Nat.reduceEqDiff, if_false, if_true, reduceIte, wti, wfn, wbin, v0, v7, v9, v10, v11, v12, v13, v14, v85, b_neqB, hp, hq, hn100], by simp only [tget_put, Nat.reduceEqDiff, if_false, if_true, reduceIte, wti, wfn, wbin, v0, v7, v9, v10, v11, v12, v13, v14, v85, b_neqB, hp, hq, hn100], rfl⟩
    · rintro T3 _ ⟨x16, x7, x12, x13, x15, rfl⟩
      have hup1 : Upto (if now < a then (M.del mine).put mine a else M.del mine) 101 := by
        split
        · exact (hup.del mine).put _ _
        · exact (hup.del mine).mono (by omega)
      have hup2 : Upto (if now < b then (if now < a then (M.del mine).put mine a else M.del mine).put mine b else if now < a then (M.del mine).put mine a else M.del mine) 102 := by
        split
        · exact hup1.put _ _
        · exact hup1.mono (by omega)
      have hmine : (if now < b then (if now < a then (M.del mine).put mine a else M.del mine).put mine b else if now < a then (M.del mine).put mine a else M.del mine) mine = if now < b then some b else if now < a then some a else none := by
        by_cases h1 : now < b
        · rw [if_pos h1, if_pos h1]; simp [TM.put]
        · rw [if_neg h1, if_neg h1]
          by_cases h2 : now < a
          · rw [if_pos h2, if_pos h2]; simp [TM.put]
          · rw [if_neg h2, if_neg h2]; simp [TM.del]
      generalize (if now < b then (if now < a then (M.del mine).put mine a else M.del mine).put mine b else if now < a then (M.del mine).put mine a else M.del mine) = M5 at hw5 hm hup2 hmine
      have hle : m ≤ 102 := cnt_upto hm hup2
      simp only [oneW_next, tg_eq, tgN_eq, brW_true, brW_false, c_skip, c_ret, c_exit, c_seq, c_cond, condW_b, c_block, c_scope, c_region, c_drawn, c_loop, onw_n, onw_r, onw_e, outb_e, outb_o, outb_n, outb_r, putW_some, putW_none, opsW_arr, opsW_nil, opsW_cons, wanted_none, wanted_some, guardB_some, oneW_next, oneW_move, oneW_assign, oneW_pick, oneW_build, oneW_load, oneW_store, oneW_nilCheck, oneW_binOp, oneW_unOp, oneW_makeFunc, oneW_slice, oneW_fieldAddr, oneW_field, oneW_indexAddr, oneW_index, oneW_lookup, oneW_mapUpdate, oneW_range, oneW_entry, oneW_extract, oneW_call, oneW_alloc, oneW_box, oneW_makeMap, oneW_buildSlice, oneW_convert, Hands, handsV, resultsV, oneOrTuple, argsT, arW_val, ofVal_some, plain_val, cond_true, cond_false,
    aOp_move, aOp_assign, aOp_pick, aOp_build, aOp_load, aOp_store, aOp_nilCheck, aOp_binOp, aOp_unOp, aOp_makeFunc, aOp_slice, aOp_fieldAddr, aOp_field, aOp_indexAddr, aOp_index, aOp_lookup, aOp_mapUpdate, aOp_range, aOp_entry, aOp_extract, aOp_call, aOp_alloc, aOp_box, aOp_makeMap, aOp_buildSlice, aInvoke_func,
    nbeq, nble, nblt, cond_dec, decide_true, decide_false, decide_eq_true_eq, Bool.false_eq_true, Bool.and_true, Bool.true_and, Bool.not_true, Bool.not_false, bq_t, bq_f, ev, evs, evPairs, evOpt, closed, flat, tget_put, Nat.reduceEqDiff, Nat.reduceAdd, Nat.reduceMul, Nat.reduceSub, Nat.reduceLT, Nat.reduceLeDiff, Nat.reduceBEq, reduceIte, if_true, if_false, reduceCtorEq, nth, aCall, aEnter, notYield, aNilCheck, aLoad, partV, isAggD, aFieldAddr, aField, aExtract, b_add, b_sub, b_mul, b_xor, b_eql, b_neq, b_lss, b_leq, b_gtr, b_geq, b_shr, Option.isNone, aBuiltin,
    List.length_cons, List.length_nil, true_implies, false_implies, and_true, true_and, implies_true, forall_const, List.append_nil, List.cons_append, List.nil_append, ASt.get_set, ASt.get_new, ASt.next_set, ASt.next_new, Nat.zero_add, Nat.add_zero, eq_self, ctor_self, ti63, t63_desc, t63_size, ti25, t25_desc, ti22, t22_desc, t22_size, ti59, t59_desc, t59_size, ti60, t60_desc, t60_size, ti61, t61_desc, t61_size, ti3, t3_desc, t3_size, ti40, t40_desc, t40_size, ti33, t33_desc, t33_size, ti9, t9_desc, t9_size, wrow_now, wrow_all, eqnil25, fn17, fn26, fn27, fn28, fn29, fn38, fn39, fn12, fn14, fn15, wti, wfn, wbin, wlen, wix, x7, fn13]
      refine CallT.mono (adv_top hw5 (hup2.few (by omega))) ?_
      rintro v A7 ⟨ts, hts, hsl7, hw7, f7⟩
      have hlm : ts.length = m := hts.cnt.uniq hm
      have hlv : ∀ A, aLen E0 30 v A = some (.int .i64 (ts.length : Int)) := fun _ => hsl7.len
      refine putW_abs (n := 152) (d := 109) (fun T => tget T 16 = .int .u64 ((if now < b then b else a : Nat) : Int) ∧ tget T 7 = .pointer (some ⟨W, 0, none⟩) ∧ tget T 12 = .bool (decide (now < a)) ∧ tget T 13 = .bool (decide (now < b)) ∧ tget T 15 = .int .i64 (m : Int) ∧ tget T 109 = v) (by decide) (by simp only [tget_put, Nat.reduceEqDiff, if_false, if_true, reduceIte, x16, x7, x12, x13, x15, and_self]) ?_
      rintro T4 ⟨y16, y7, y12, y13, y15, y109⟩
      simp only [oneW_next, tg_eq, tgN_eq, brW_true, brW_false, c_skip, c_ret, c_exit, c_seq, c_cond, condW_b, c_block, c_scope, c_region, c_drawn, c_loop, onw_n, onw_r, onw_e, outb_e, outb_o, outb_n, outb_r, putW_some, putW_none, opsW_arr, opsW_nil, opsW_cons, wanted_none, wanted_some, guardB_some, oneW_next, oneW_move, oneW_assign, oneW_pick, oneW_build, oneW_load, oneW_store, oneW_nilCheck, oneW_binOp, oneW_unOp, oneW_makeFunc, oneW_slice, oneW_fieldAddr, oneW_field, oneW_indexAddr, oneW_index, oneW_lookup, oneW_mapUpdate, oneW_range, oneW_entry, oneW_extract, oneW_call, oneW_alloc, oneW_box, oneW_makeMap, oneW_buildSlice, oneW_convert, Hands, handsV, resultsV, oneOrTuple, argsT, arW_val, ofVal_some, plain_val, cond_true, cond_false,
    aOp_move, aOp_assign, aOp_pick, aOp_build, aOp_load, aOp_store, aOp_nilCheck, aOp_binOp, aOp_unOp, aOp_makeFunc, aOp_slice, aOp_fieldAddr, aOp_field, aOp_indexAddr, aOp_index, aOp_lookup, aOp_mapUpdate, aOp_range, aOp_entry, aOp_extract, aOp_call, aOp_alloc, aOp_box, aOp_makeMap, aOp_buildSlice, aInvoke_func,
    nbeq, nble, nblt, cond_dec, decide_true, decide_false, decide_eq_true_eq, Bool.false_eq_true, Bool.and_true, Bool.true_and, Bool.not_true, Bool.not_false, bq_t, bq_f, ev, evs, evPairs, evOpt, closed, flat, tget_put, Nat.reduceEqDiff, Nat.reduceAdd, Nat.reduceMul, Nat.reduceSub, Nat.reduceLT, Nat.reduceLeDiff, Nat.reduceBEq, reduceIte, if_true, if_false, reduceCtorEq, nth, aCall, aEnter, notYield, aNilCheck, aLoad, partV, isAggD, aFieldAddr, aField, aExtract, b_add, b_sub, b_mul, b_xor, b_eql, b_neq, b_lss, b_leq, b_gtr, b_geq, b_shr, Option.isNone, aBuiltin,
    List.length_cons, List.length_nil, true_implies, false_implies, and_true, true_and, implies_true, forall_const, List.append_nil, List.cons_append, List.nil_append, ASt.get_set, ASt.get_new, ASt.next_set, ASt.next_new, Nat.zero_add, Nat.add_zero, eq_self, ctor_self, ti63, t63_desc, t63_size, ti25, t25_desc, ti22, t22_desc, t22_size, ti59, t59_desc, t59_size, ti60, t60_desc, t60_size, ti61, t61_desc, t61_size, ti3, t3_desc, t3_size, ti40, t40_desc, t40_size, ti33, t33_desc, t33_size, ti9, t9_desc, t9_size, wrow_now, wrow_all, eqnil25, fn17, fn26, fn27, fn28, fn29, fn38, fn39, fn12, fn14, fn15, wti, wfn, wbin, wlen, wix, y109]
      refine CodeW.mono (Q := fun o => ∃ T' A', o = .fr ⟨.exit 2, T', A'⟩ ∧ tget T' 7 = .pointer (some ⟨W, 0, none⟩) ∧ tget T' 12 = .bool (decide (now < a)) ∧ tget T' 13 = .bool (decide (now < b)) ∧ tget T' 15 = .int .i64 (m : Int) ∧ tget T' 17 = v ∧ tget T' 18 = .int .i64 (howMany mine ts.length ts : Int) ∧ A' = A7) ?_ ?_
      · refine CodeW.loopR (k := ts.length) (fun k T A' => ∃ i, k = ts.length - i ∧ i ≤ ts.length ∧ tget T 19 = .int .i64 (i : Int) ∧ tget T 16 = .int .u64 ((if now < b then b else a : Nat) : Int) ∧ tget T 7 = .pointer (some ⟨W, 0, none⟩) ∧ tget T 12 = .bool (decide (now < a)) ∧ tget T 13 = .bool (decide (now < b)) ∧ tget T 15 = .int .i64 (m : Int) ∧ tget T 17 = v ∧ tget T 18 = .int .i64 (howMany mine i ts : Int) ∧ A' = A7) ?_ ⟨0, rfl, by omega, ?_, ?_, ?_, ?_, ?_, ?_, ?_, ?_, rfl⟩
        · rintro k T A1 ⟨i, rfl, hi, z19, z16, z7, z12, z13, z15, z17, z18, rfl⟩
          refine codeW_ok (withRo_ok E0_ok) hro ?_
          by_cases e1 : i < ts.length
          · have d1 : ((i : Int) < (ts.length : Int)) = True := eq_true (by omega)
            simp only [oneW_next, tg_eq, tgN_eq, brW_true, brW_false, c_skip, c_ret, c_exit, c_seq, c_cond, condW_b, c_block, c_scope, c_region, c_drawn, c_loop, onw_n, onw_r, onw_e, outb_e, outb_o, outb_n, outb_r, putW_some, putW_none, opsW_arr, opsW_nil, opsW_cons, wanted_none, wanted_some, guardB_some, oneW_next, oneW_move, oneW_assign, oneW_pick, oneW_build, oneW_load, oneW_store, oneW_nilCheck, oneW_binOp, oneW_unOp, oneW_makeFunc, oneW_slice, oneW_fieldAddr, oneW_field, oneW_indexAddr, oneW_index, oneW_lookup, oneW_mapUpdate, oneW_range, oneW_entry, oneW_extract, oneW_call, oneW_alloc, oneW_box, oneW_makeMap, oneW_buildSlice, oneW_convert, Hands, handsV, resultsV, oneOrTuple, argsT, arW_val, ofVal_some, plain_val, cond_true, cond_false,
    aOp_move, aOp_assign, aOp_pick, aOp_build, aOp_load, aOp_store, aOp_nilCheck, aOp_binOp, aOp_unOp, aOp_makeFunc, aOp_slice, aOp_fieldAddr, aOp_field, aOp_indexAddr, aOp_index, aOp_lookup, aOp_mapUpdate, aOp_range, aOp_entry, aOp_extract, aOp_call, aOp_alloc, aOp_box, aOp_makeMap, aOp_buildSlice, aInvoke_func,
    nbeq, nble, nblt, cond_dec, decide_true, decide_false, decide_eq_true_eq, Bool.false_eq_true, Bool.and_true, Bool.true_and, Bool.not_true, Bool.not_false, bq_t, bq_f, ev, evs, evPairs, evOpt, closed, flat, tget_put, Nat.reduceEqDiff, Nat.reduceAdd, Nat.reduceMul, Nat.reduceSub, Nat.reduceLT, Nat.reduceLeDiff, Nat.reduceBEq, reduceIte, if_true, if_false, reduceCtorEq, nth, aCall, aEnter, notYield, aNilCheck, aLoad, partV, isAggD, aFieldAddr, aField, aExtract, b_add, b_sub, b_mul, b_xor, b_eql, b_neq, b_lss, b_leq, b_gtr, b_geq, b_shr, Option.isNone, aBuiltin,
    List.length_cons, List.length_nil, true_implies, false_implies, and_true, true_and, implies_true, forall_const, List.append_nil, List.cons_append, List.nil_append, ASt.get_set, ASt.get_new, ASt.next_set, ASt.next_new, Nat.zero_add, Nat.add_zero, eq_self, ctor_self, ti63, t63_desc, t63_size, ti25, t25_desc, ti22, t22_desc, t22_size, ti59, t59_desc, t59_size, ti60, t60_desc, t60_size, ti61, t61_desc, t61_size, ti3, t3_desc, t3_size, ti40, t40_desc, t40_size, ti33, t33_desc, t33_size, ti9, t9_desc, t9_size, wrow_now, wrow_all, eqnil25, fn17, fn26, fn27, fn28, fn29, fn38, fn39, fn12, fn14, fn15, wti, wfn, wbin, wlen, wix, z19, z17, hlv, d1]
            have hx : ts[i]? = some ts[i] := List.getElem?_eq_getElem _
            generalize ts[i] = x at hx
            obtain ⟨b', rest, tl, hix', hb'⟩ := hsl7.ix e1
            obtain ⟨g0, g1⟩ := tcells_nth (rest := rest) hx
            have hhs := howMany_succ (k := mine) hx
            simp only [oneW_next, tg_eq, tgN_eq, brW_true, brW_false, c_skip, c_ret, c_exit, c_seq, c_cond, condW_b, c_block, c_scope, c_region, c_drawn, c_loop, onw_n, onw_r, onw_e, outb_e, outb_o, outb_n, outb_r, putW_some, putW_none, opsW_arr, opsW_nil, opsW_cons, wanted_none, wanted_some, guardB_some, oneW_next, oneW_move, oneW_assign, oneW_pick, oneW_build, oneW_load, oneW_store, oneW_nilCheck, oneW_binOp, oneW_unOp, oneW_makeFunc, oneW_slice, oneW_fieldAddr, oneW_field, oneW_indexAddr, oneW_index, oneW_lookup, oneW_mapUpdate, oneW_range, oneW_entry, oneW_extract, oneW_call, oneW_alloc, oneW_box, oneW_makeMap, oneW_buildSlice, oneW_convert, Hands, handsV, resultsV, oneOrTuple, argsT, arW_val, ofVal_some, plain_val, cond_true, cond_false,
    aOp_move, aOp_assign, aOp_pick, aOp_build, aOp_load, aOp_store, aOp_nilCheck, aOp_binOp, aOp_unOp, aOp_makeFunc, aOp_slice, aOp_fieldAddr, aOp_field, aOp_indexAddr, aOp_index, aOp_lookup, aOp_mapUpdate, aOp_range, aOp_entry, aOp_extract, aOp_call, aOp_alloc, aOp_box, aOp_makeMap, aOp_buildSlice, aInvoke_func,
    nbeq, nble, nblt, cond_dec, decide_true, decide_false, decide_eq_true_eq, Bool.false_eq_true, Bool.and_true, Bool.true_and, Bool.not_true, Bool.not_false, bq_t, bq_f, ev, evs, evPairs, evOpt, closed, flat, tget_put, Nat.reduceEqDiff, Nat.reduceAdd, Nat.reduceMul, Nat.reduceSub, Nat.reduceLT, Nat.reduceLeDiff, Nat.reduceBEq, reduceIte, if_true, if_false, reduceCtorEq, nth, aCall, aEnter, notYield, aNilCheck, aLoad, partV, isAggD, aFieldAddr, aField, aExtract, b_add, b_sub, b_mul, b_xor, b_eql, b_neq, b_lss, b_leq, b_gtr, b_geq, b_shr, Option.isNone, aBuiltin,
    List.length_cons, List.length_nil, true_implies, false_implies, and_true, true_and, implies_true, forall_const, List.append_nil, List.cons_append, List.nil_append, ASt.get_set, ASt.get_new, ASt.next_set, ASt.next_new, Nat.zero_add, Nat.add_zero, eq_self, ctor_self, ti63, t63_desc, t63_size, ti25, t25_desc, ti22, t22_desc, t22_size, ti59, t59_desc, t59_size, ti60, t60_desc, t60_size, ti61, t61_desc, t61_size, ti3, t3_desc, t3_size, ti40, t40_desc, t40_size, ti33, t33_desc, t33_size, ti9, t9_desc, t9_size, wrow_now, wrow_all, eqnil25, fn17, fn26, fn27, fn28, fn29, fn38, fn39, fn12, fn14, fn15, wti, wfn, wbin, wlen, wix, z19, z17, hix', hb', g0, s_eql]
            refine brW_dec (fun hn => ?_) (fun hn => ?_)
            · have hn' : x.1 = mine := hn
              have hxat : M5 mine = some x.2 := (hts.mem mine x.2).1 (by rw [← hn']; exact List.mem_of_getElem? hx)
              have hat : x.2 = if now < b then b else a := by
                rw [hmine] at hxat
                by_cases h1 : now < b
                · rw [if_pos h1] at hxat ⊢; simpa using hxat.symm
                · rw [if_neg h1] at hxat ⊢
                  by_cases h2 : now < a
                  · rw [if_pos h2] at hxat; simpa using hxat.symm
                  · rw [if_neg h2] at hxat; cases hxat
              rw [if_pos hn'] at hhs
              have dat : (((x.2 : Nat) : Int) ≠ ((if now < b then b else a : Nat) : Int)) = False := eq_false (by rw [hat]; simp)
              have hwr := wrap_succ (n := howMany mine i ts) (show howMany mine i ts < 1000000 by have := howMany_le (k := mine) (n := i) (l := ts); omega)
              simp only [oneW_next, tg_eq, tgN_eq, brW_true, brW_false, c_skip, c_ret, c_exit, c_seq, c_cond, condW_b, c_block, c_scope, c_region, c_drawn, c_loop, onw_n, onw_r, onw_e, outb_e, outb_o, outb_n, outb_r, putW_some, putW_none, opsW_arr, opsW_nil, opsW_cons, wanted_none, wanted_some, guardB_some, oneW_next, oneW_move, oneW_assign, oneW_pick, oneW_build, oneW_load, oneW_store, oneW_nilCheck, oneW_binOp, oneW_unOp, oneW_makeFunc, oneW_slice, oneW_fieldAddr, oneW_field, oneW_indexAddr, oneW_index, oneW_lookup, oneW_mapUpdate, oneW_range, oneW_entry, oneW_extract, oneW_call, oneW_alloc, oneW_box, oneW_makeMap, oneW_buildSlice, oneW_convert, Hands, handsV, resultsV, oneOrTuple, argsT, arW_val, ofVal_some, plain_val, cond_true, cond_false,
    aOp_move, aOp_assign, aOp_pick, aOp_build, aOp_load, aOp_store, aOp_nilCheck, aOp_binOp, aOp_unOp, aOp_makeFunc, aOp_slice, aOp_fieldAddr, aOp_field, aOp_indexAddr, aOp_index, aOp_lookup, aOp_mapUpdate, aOp_range, aOp_entry, aOp_extract, aOp_call, aOp_alloc, aOp_box, aOp_makeMap, aOp_buildSlice, aInvoke_func,
    nbeq, nble, nblt, cond_dec, decide_true, decide_false, decide_eq_true_eq, Bool.false_eq_true, Bool.and_true, Bool.true_and, Bool.not_true, Bool.not_false, bq_t, bq_f, ev, evs, evPairs, evOpt, closed, flat, tget_put, Nat.reduceEqDiff, Nat.reduceAdd, Nat.reduceMul, Nat.reduceSub, Nat.reduceLT, Nat.reduceLeDiff, Nat.reduceBEq, reduceIte, if_true, if_false, reduceCtorEq, nth, aCall, aEnter, notYield, aNilCheck, aLoad, partV, isAggD, aFieldAddr, aField, aExtract, b_add, b_sub, b_mul, b_xor, b_eql, b_neq, b_lss, b_leq, b_gtr, b_geq, b_shr, Option.isNone, aBuiltin,
    List.length_cons, List.length_nil, true_implies, false_implies, and_true, true_and, implies_true, forall_const, List.append_nil, List.cons_append, List.nil_append, ASt.get_set, ASt.get_new, ASt.next_set, ASt.next_new, Nat.zero_add, Nat.add_zero, eq_self, ctor_self, ti63, t63_desc, t63_size, ti25, t25_desc, ti22, t22_desc, t22_size, ti59, t59_desc, t59_size, ti60, t60_desc, t60_size, ti61, t61_desc, t61_size, ti3, t3_desc, t3_size, ti40, t40_desc, t40_size, ti33, t33_desc, t33_size, ti9, t9_desc, t9_size, wrow_now, wrow_all, eqnil25, fn17, fn26, fn27, fn28, fn29, fn38, fn39, fn12, fn14, fn15, wti, wfn, wbin, wlen, wix, z19, z17, z18, z16, hix', hb', g1, dat, hwr, wrap_succ (show i < 1000000 by omega)]
              exact ⟨ts.length - (i + 1), by omega, i + 1, rfl, by omega, rfl, z7, z12, z13, z15, by rw [hhs]⟩
            · have hn' : ¬ x.1 = mine := hn
              rw [if_neg hn', Nat.add_zero] at hhs
              simp only [oneW_next, tg_eq, tgN_eq, brW_true, brW_false, c_skip, c_ret, c_exit, c_seq, c_cond, condW_b, c_block, c_scope, c_region, c_drawn, c_loop, onw_n, onw_r, onw_e, outb_e, outb_o, outb_n, outb_r, putW_some, putW_none, opsW_arr, opsW_nil, opsW_cons, wanted_none, wanted_some, guardB_some, oneW_next, oneW_move, oneW_assign, oneW_pick, oneW_build, oneW_load, oneW_store, oneW_nilCheck, oneW_binOp, oneW_unOp, oneW_makeFunc, oneW_slice, oneW_fieldAddr, oneW_field, oneW_indexAddr, oneW_index, oneW_lookup, oneW_mapUpdate, oneW_range, oneW_entry, oneW_extract, oneW_call, oneW_alloc, oneW_box, oneW_makeMap, oneW_buildSlice, oneW_convert, Hands, handsV, resultsV, oneOrTuple, argsT, arW_val, ofVal_some, plain_val, cond_true, cond_false,
    aOp_move, aOp_assign, aOp_pick, aOp_build, aOp_load, aOp_store, aOp_nilCheck, aOp_binOp, aOp_unOp, aOp_makeFunc, aOp_slice, aOp_fieldAddr, aOp_field, aOp_indexAddr, aOp_index, aOp_lookup, aOp_mapUpdate, aOp_range, aOp_entry, aOp_extract, aOp_call, aOp_alloc, aOp_box, aOp_makeMap, aOp_buildSlice, aInvoke_func,
    nbeq, nble, nblt, cond_dec, decide_true, decide_false, decide_eq_true_eq, Bool.false_eq_true, Bool.and_true, Bool.true_and, Bool.not_true, Bool.not_false, bq_t, bq_f, ev, evs, evPairs, evOpt, closed, flat, tget_put, Nat.reduceEqDiff, Nat.reduceAdd, Nat.reduceMul, Nat.reduceSub, Nat.reduceLT, Nat.reduceLeDiff, Nat.reduceBEq, reduceIte, if_true, if_false, reduceCtorEq, nth, aCall, aEnter, notYield, aNilCheck, aLoad, partV, isAggD, aFieldAddr, aField, aExtract, b_add, b_sub, b_mul, b_xor, b_eql, b_neq, b_lss, b_leq, b_gtr, b_geq, b_shr, Option.isNone, aBuiltin,
    List.length_cons, List.length_nil, true_implies, false_implies, and_true, true_and, implies_true, forall_const, List.append_nil, List.cons_append, List.nil_append, ASt.get_set, ASt.get_new, ASt.next_set, ASt.next_new, Nat.zero_add, Nat.add_zero, eq_self, ctor_self, ti63, t63_desc, t63_size, ti25, t25_desc, ti22, t22_desc, t22_size, ti59, t59_desc, t59_size, ti60, t60_desc, t60_size, ti61, t61_desc, t61_size, ti3, t3_desc, t3_size, ti40, t40_desc, t40_size, ti33, t33_desc, t33_size, ti9, t9_desc, t9_size, wrow_now, wrow_all, eqnil25, fn17, fn26, fn27, fn28, fn29, fn38, fn39, fn12, fn14, fn15, wti, wfn, wbin, wlen, wix, z19, wrap_succ (show i < 1000000 by omega)]
              exact ⟨ts.length - (i + 1), by omega, i + 1, rfl, by omega, rfl, z16, z7, z12, z13, z15, z17, by rw [hhs]; exact z18⟩
          · have d1 : ((i : Int) < (ts.length : Int)) = False := eq_false (by omega)
            have ei : i = ts.length := by omega
            subst ei
            simp only [oneW_next, tg_eq, tgN_eq, brW_true, brW_false, c_skip, c_ret, c_exit, c_seq, c_cond, condW_b, c_block, c_scope, c_region, c_drawn, c_loop, onw_n, onw_r, onw_e, outb_e, outb_o, outb_n, outb_r, putW_some, putW_none, opsW_arr, opsW_nil, opsW_cons, wanted_none, wanted_some, guardB_some, oneW_next, oneW_move, oneW_assign, oneW_pick, oneW_build, oneW_load, oneW_store, oneW_nilCheck, oneW_binOp, oneW_unOp, oneW_makeFunc, oneW_slice, oneW_fieldAddr, oneW_field, oneW_indexAddr, oneW_index, oneW_lookup, oneW_mapUpdate, oneW_range, oneW_entry, oneW_extract, oneW_call, oneW_alloc, oneW_box, oneW_makeMap, oneW_buildSlice, oneW_convert, Hands, handsV, resultsV, oneOrTuple, argsT, arW_val, ofVal_some, plain_val, cond_true, cond_false,
    aOp_move, aOp_assign, aOp_pick, aOp_build, aOp_load, aOp_store, aOp_nilCheck, aOp_binOp, aOp_unOp, aOp_makeFunc, aOp_slice, aOp_fieldAddr, aOp_field, aOp_indexAddr, aOp_index, aOp_lookup, aOp_mapUpdate, aOp_range, aOp_entry, aOp_extract, aOp_call, aOp_alloc, aOp_box, aOp_makeMap, aOp_buildSlice, aInvoke_func,
    nbeq, nble, nblt, cond_dec, decide_true, decide_false, decide_eq_true_eq, Bool.false_eq_true, Bool.and_true, Bool.true_and, Bool.not_true, Bool.not_false, bq_t, bq_f, ev, evs, evPairs, evOpt, closed, flat, tget_put, Nat.reduceEqDiff, Nat.reduceAdd, Nat.reduceMul, Nat.reduceSub, Nat.reduceLT, Nat.reduceLeDiff, Nat.reduceBEq, reduceIte, if_true, if_false, reduceCtorEq, nth, aCall, aEnter, notYield, aNilCheck, aLoad, partV, isAggD, aFieldAddr, aField, aExtract, b_add, b_sub, b_mul, b_xor, b_eql, b_neq, b_lss, b_leq, b_gtr, b_geq, b_shr, Option.isNone, aBuiltin,
    List.length_cons, List.length_nil, true_implies, false_implies, and_true, true_and, implies_true, forall_const, List.append_nil, List.cons_append, List.nil_append, ASt.get_set, ASt.get_new, ASt.next_set, ASt.next_new, Nat.zero_add, Nat.add_zero, eq_self, ctor_self, ti63, t63_desc, t63_size, ti25, t25_desc, ti22, t22_desc, t22_size, ti59, t59_desc, t59_size, ti60, t60_desc, t60_size, ti61, t61_desc, t61_size, ti3, t3_desc, t3_size, ti40, t40_desc, t40_size, ti33, t33_desc, t33_size, ti9, t9_desc, t9_size, wrow_now, wrow_all, eqnil25, fn17, fn26, fn27, fn28, fn29, fn38, fn39, fn12, fn14, fn15, wti, wfn, wbin, wlen, wix, z19, z17, hlv, d1]
            exact ⟨_, _, rfl, by simp only [tget_put, Nat.reduceEqDiff, if_false, if_true, reduceIte, z7], by simp only [tget_put, Nat.reduceEqDiff, if_false, if_true, reduceIte, z12], by simp only [tget_put, Nat.reduceEqDiff, if_false, if_true, reduceIte, z13], by simp only [tget_put, Nat.reduceEqDiff, if_false, if_true, reduceIte, z15], by simp only [tget_put, Nat.reduceEqDiff, if_false, if_true, reduceIte, z17], by simp only [tget_put, Nat.reduceEqDiff, if_false, if_true, reduceIte, z18], rfl⟩
        all_goals try simp only [tget_put, Nat.reduceEqDiff, if_false, if_true, reduceIte, y16, y7, y12, y13, y15, howMany]
        all_goals try rfl
      · rintro o ⟨T5, A8, rfl, z7, z12, z13, z15, z17, z18, rfl⟩
        have hcn : howMany mine ts.length ts = if decide (now < a) || decide (now < b) then 1 else 0 := by
          rw [hts.many mine, hmine]
          by_cases h1 : now < b
          · simp [h1]
          · by_cases h2 : now < a
            · simp [h1, h2]
            · simp [h1, h2]
        have dm : ((ts.length : Int) = (m : Int)) = True := eq_true (by omega)
        generalize decide (now < a) = p at z12 hcn
        generalize decide (now < b) = q at z13 hcn
        rw [hcn] at z18
        have h00 : Cnt (fun _ => none) 0 := ⟨[], by simp, by simp, rfl⟩
        have n0 : (((0 : Nat) : Int) = 0) = True := eq_true rfl
        have n1 : (((1 : Nat) : Int) = 1) = True := eq_true rfl
        cases p <;> cases q
        all_goals
          simp only [oneW_next, tg_eq, tgN_eq, brW_true, brW_false, c_skip, c_ret, c_exit, c_seq, c_cond, condW_b, c_block, c_scope, c_region, c_drawn, c_loop, onw_n, onw_r, onw_e, outb_e, outb_o, outb_n, outb_r, putW_some, putW_none, opsW_arr, opsW_nil, opsW_cons, wanted_none, wanted_some, guardB_some, oneW_next, oneW_move, oneW_assign, oneW_pick, oneW_build, oneW_load, oneW_store, oneW_nilCheck, oneW_binOp, oneW_unOp, oneW_makeFunc, oneW_slice, oneW_fieldAddr, oneW_field, oneW_indexAddr, oneW_index, oneW_lookup, oneW_mapUpdate, oneW_range, oneW_entry, oneW_extract, oneW_call, oneW_alloc, oneW_box, oneW_makeMap, oneW_buildSlice, oneW_convert, Hands, handsV, resultsV, oneOrTuple, argsT, arW_val, ofVal_some, plain_val, cond_true, cond_false,
    aOp_move, aOp_assign, aOp_pick, aOp_build, aOp_load, aOp_store, aOp_nilCheck, aOp_binOp, aOp_unOp, aOp_makeFunc, aOp_slice, aOp_fieldAddr, aOp_field, aOp_indexAddr, aOp_index, aOp_lookup, aOp_mapUpdate, aOp_range, aOp_entry, aOp_extract, aOp_call, aOp_alloc, aOp_box, aOp_makeMap, aOp_buildSlice, aInvoke_func,
    nbeq, nble, nblt, cond_dec, decide_true, decide_false, decide_eq_true_eq, Bool.false_eq_true, Bool.and_true, Bool.true_and, Bool.not_true, Bool.not_false, bq_t, bq_f, ev, evs, evPairs, evOpt, closed, flat, tget_put, Nat.reduceEqDiff, Nat.reduceAdd, Nat.reduceMul, Nat.reduceSub, Nat.reduceLT, Nat.reduceLeDiff, Nat.reduceBEq, reduceIte, if_true, if_false, reduceCtorEq, nth, aCall, aEnter, notYield, aNilCheck, aLoad, partV, isAggD, aFieldAddr, aField, aExtract, b_add, b_sub, b_mul, b_xor, b_eql, b_neq, b_lss, b_leq, b_gtr, b_geq, b_shr, Option.isNone, aBuiltin,
    List.length_cons, List.length_nil, true_implies, false_implies, and_true, true_and, implies_true, forall_const, List.append_nil, List.cons_append, List.nil_append, ASt.get_set, ASt.get_new, ASt.next_set, ASt.next_new, Nat.zero_add, Nat.add_zero, eq_self, ctor_self, ti63, t63_desc, t63_size, ti25, t25_desc, ti22, t22_desc, t22_size, ti59, t59_desc, t59_size, ti60, t60_desc, t60_size, ti61, t61_desc, t61_size, ti3, t3_desc, t3_size, ti40, t40_desc, t40_size, ti33, t33_desc, t33_size, ti9, t9_desc, t9_size, wrow_now, wrow_all, eqnil25, fn17, fn26, fn27, fn28, fn29, fn38, fn39, fn12, fn14, fn15, wti, wfn, wbin, wlen, wix, z12, z13]
          refine CallT.mono (alive_spec (A := _)) ?_
          rintro _ _ ⟨rfl, rfl⟩
          simp only [oneW_next, tg_eq, tgN_eq, brW_true, brW_false, c_skip, c_ret, c_exit, c_seq, c_cond, condW_b, c_block, c_scope, c_region, c_drawn, c_loop, onw_n, onw_r, onw_e, outb_e, outb_o, outb_n, outb_r, putW_some, putW_none, opsW_arr, opsW_nil, opsW_cons, wanted_none, wanted_some, guardB_some, oneW_next, oneW_move, oneW_assign, oneW_pick, oneW_build, oneW_load, oneW_store, oneW_nilCheck, oneW_binOp, oneW_unOp, oneW_makeFunc, oneW_slice, oneW_fieldAddr, oneW_field, oneW_indexAddr, oneW_index, oneW_lookup, oneW_mapUpdate, oneW_range, oneW_entry, oneW_extract, oneW_call, oneW_alloc, oneW_box, oneW_makeMap, oneW_buildSlice, oneW_convert, Hands, handsV, resultsV, oneOrTuple, argsT, arW_val, ofVal_some, plain_val, cond_true, cond_false,
    aOp_move, aOp_assign, aOp_pick, aOp_build, aOp_load, aOp_store, aOp_nilCheck, aOp_binOp, aOp_unOp, aOp_makeFunc, aOp_slice, aOp_fieldAddr, aOp_field, aOp_indexAddr, aOp_index, aOp_lookup, aOp_mapUpdate, aOp_range, aOp_entry, aOp_extract, aOp_call, aOp_alloc, aOp_box, aOp_makeMap, aOp_buildSlice, aInvoke_func,
    nbeq, nble, nblt, cond_dec, decide_true, decide_false, decide_eq_true_eq, Bool.false_eq_true, Bool.and_true, Bool.true_and, Bool.not_true, Bool.not_false, bq_t, bq_f, ev, evs, evPairs, evOpt, closed, flat, tget_put, Nat.reduceEqDiff, Nat.reduceAdd, Nat.reduceMul, Nat.reduceSub, Nat.reduceLT, Nat.reduceLeDiff, Nat.reduceBEq, reduceIte, if_true, if_false, reduceCtorEq, nth, aCall, aEnter, notYield, aNilCheck, aLoad, partV, isAggD, aFieldAddr, aField, aExtract, b_add, b_sub, b_mul, b_xor, b_eql, b_neq, b_lss, b_leq, b_gtr, b_geq, b_shr, Option.isNone, aBuiltin,
    List.length_cons, List.length_nil, true_implies, false_implies, and_true, true_and, implies_true, forall_const, List.append_nil, List.cons_append, List.nil_append, ASt.get_set, ASt.get_new, ASt.next_set, ASt.next_new, Nat.zero_add, Nat.add_zero, eq_self, ctor_self, ti63, t63_desc, t63_size, ti25, t25_desc, ti22, t22_desc, t22_size, ti59, t59_desc, t59_size, ti60, t60_desc, t60_size, ti61, t61_desc, t61_size, ti3, t3_desc, t3_size, ti40, t40_desc, t40_size, ti33, t33_desc, t33_size, ti9, t9_desc, t9_size, wrow_now, wrow_all, eqnil25, fn17, fn26, fn27, fn28, fn29, fn38, fn39, fn12, fn14, fn15, wti, wfn, wbin, wlen, wix, z12, z13, z7, z15, z17, z18, hlv, dm, n0, n1, Bool.or_self, Bool.or_true, Bool.true_or, Bool.or_false]
          refine CallT.mono (len_spec hw7) ?_
          rintro _ _ ⟨⟨c, rfl, hc⟩, rfl⟩
          have hc0 : c = 0 := hc.uniq h00
          subst hc0
          simp only [oneW_next, tg_eq, tgN_eq, brW_true, brW_false, c_skip, c_ret, c_exit, c_seq, c_cond, condW_b, c_block, c_scope, c_region, c_drawn, c_loop, onw_n, onw_r, onw_e, outb_e, outb_o, outb_n, outb_r, putW_some, putW_none, opsW_arr, opsW_nil, opsW_cons, wanted_none, wanted_some, guardB_some, oneW_next, oneW_move, oneW_assign, oneW_pick, oneW_build, oneW_load, oneW_store, oneW_nilCheck, oneW_binOp, oneW_unOp, oneW_makeFunc, oneW_slice, oneW_fieldAddr, oneW_field, oneW_indexAddr, oneW_index, oneW_lookup, oneW_mapUpdate, oneW_range, oneW_entry, oneW_extract, oneW_call, oneW_alloc, oneW_box, oneW_makeMap, oneW_buildSlice, oneW_convert, Hands, handsV, resultsV, oneOrTuple, argsT, arW_val, ofVal_some, plain_val, cond_true, cond_false,
    aOp_move, aOp_assign, aOp_pick, aOp_build, aOp_load, aOp_store, aOp_nilCheck, aOp_binOp, aOp_unOp, aOp_makeFunc, aOp_slice, aOp_fieldAddr, aOp_field, aOp_indexAddr, aOp_index, aOp_lookup, aOp_mapUpdate, aOp_range, aOp_entry, aOp_extract, aOp_call, aOp_alloc, aOp_box, aOp_makeMap, aOp_buildSlice, aInvoke_func,
    nbeq, nble, nblt, cond_dec, decide_true, decide_false, decide_eq_true_eq, Bool.false_eq_true, Bool.and_true, Bool.true_and, Bool.not_true, Bool.not_false, bq_t, bq_f, ev, evs, evPairs, evOpt, closed, flat, tget_put, Nat.reduceEqDiff, Nat.reduceAdd, Nat.reduceMul, Nat.reduceSub, Nat.reduceLT, Nat.reduceLeDiff, Nat.reduceBEq, reduceIte, if_true, if_false, reduceCtorEq, nth, aCall, aEnter, notYield, aNilCheck, aLoad, partV, isAggD, aFieldAddr, aField, aExtract, b_add, b_sub, b_mul, b_xor, b_eql, b_neq, b_lss, b_leq, b_gtr, b_geq, b_shr, Option.isNone, aBuiltin,
    List.length_cons, List.length_nil, true_implies, false_implies, and_true, true_and, implies_true, forall_const, List.append_nil, List.cons_append, List.nil_append, ASt.get_set, ASt.get_new, ASt.next_set, ASt.next_new, Nat.zero_add, Nat.add_zero, eq_self, ctor_self, ti63, t63_desc, t63_size, ti25, t25_desc, ti22, t22_desc, t22_size, ti59, t59_desc, t59_size, ti60, t60_desc, t60_size, ti61, t61_desc, t61_size, ti3, t3_desc, t3_size, ti40, t40_desc, t40_size, ti33, t33_desc, t33_size, ti9, t9_desc, t9_size, wrow_now, wrow_all, eqnil25, fn17, fn26, fn27, fn28, fn29, fn38, fn39, fn12, fn14, fn15, wti, wfn, wbin, wlen, wix, z12, z13, z7, z15, z17, z18, hlv, dm, n0, n1]
end Go.Proofs.Ytpmpclieclcbdaa

/- What a law's arguments hold: numbers, pairs of numbers, scripts in a slice, numbers in a slice. -/
namespace Go.Proofs.Ytpmpclieclcbdaa
open Go Go.AE Go.ChangeShapes Go.WideShapes Go.ChangeAt Go.RowKit Go.Joins Go.Deep

theorem Try.own : ownKnob Try.prog.godebug = none := by kernel_rfl
theorem Try.laidOut : laidOutB Try.prog = true := by kernel_rfl

set_option maxRecDepth 100000
theorem wf_u64 {n : Int} (h : (Lit.int .u64 n).wf = true) : ∃ m : Nat, n = (m : Int) ∧ m < 18446744073709551616 := by
  simp only [Lit.wf, Bool.and_eq_true, decide_eq_true_eq] at h
  have h1 : (0 : Int) ≤ n := h.1
  have h2 : n ≤ 18446744073709551615 := h.2
  exact ⟨n.toNat, by omega, by omega⟩
theorem trod_u64 {H : Type} {enc : TypeId × Value → H} {w : World} {base : Nat} {spare : Nat → Bool} {held : Bool} {fuel : Nat} {cs : List Value} {x : DataW H × List MemPlace} (h : DataW.trod enc Try.prog w base spare held fuel 22 cs = some x) : ∃ m : Nat, cs = [.int .u64 (m : Int)] ∧ m < 18446744073709551616 := by
  obtain ⟨n, rfl, _, hw⟩ := DataW.trod_int Try.underlying22 h
  obtain ⟨m, rfl, hm⟩ := wf_u64 hw
  exact ⟨m, rfl, hm⟩

instance : Inhabited ActD := ⟨⟨0, ByteArray.empty, 0, 0⟩⟩
def acell (y : ActD) : List Value := [.int .i64 y.kind, .string y.name, .int .u64 (y.at_ : Int), .int .u64 (y.by_ : Int)]
theorem acells_at : ∀ {acts : List ActD} {i : Nat} {v : Value}, (acells acts)[i]? = some v → ∃ q y r, acts[q]? = some y ∧ r < 4 ∧ i = q * 4 + r ∧ (acell y)[r]? = some v
  | [], i, v, h => by simp [acells] at h
  | y :: l, 0, v, h => ⟨0, y, 0, rfl, by omega, rfl, h⟩
  | y :: l, 1, v, h => ⟨0, y, 1, rfl, by omega, rfl, h⟩
  | y :: l, 2, v, h => ⟨0, y, 2, rfl, by omega, rfl, h⟩
  | y :: l, 3, v, h => ⟨0, y, 3, rfl, by omega, rfl, h⟩
  | y :: l, i + 4, v, h => by
    obtain ⟨q, z, r, h1, h2, h3, h4⟩ := acells_at (acts := l) (i := i) (v := v) h
    exact ⟨q + 1, z, r, by simpa using h1, h2, by omega, h4⟩

section
variable {H : Type} {enc : TypeId × Value → H} {w : World} {base : Nat} {spare : Nat → Bool} {held : Bool}

/-- A script. -/
theorem open_acts {fuel : Nat} {cs : List Value} {x : DataW H × List MemPlace} (h : DataW.trod enc Try.prog w base spare held fuel 37 cs = some x) :
    cs = [.slice none 0 0] ∨ ∃ (a : Addr) (len cap : Nat) (acts : List ActD), cs = [.slice (some a) len cap] ∧ cap ≤ maxLen ∧ acts.length = len ∧ (∀ y ∈ acts, y.at_ < 18446744073709551616 ∧ y.by_ < 18446744073709551616) ∧
      ∀ i y, acts[i]? = some y → ∀ r v, (acell y)[r]? = some v → w.cell? (a.add (i * 4 + r)) = some v := by
  rcases open_slice Try.underlying37 h with ⟨h0, _⟩ | ⟨a, len, cap, m, n, D, Pl, rfl, _, hl, hcap, hm, _, hx⟩
  · exact .inl h0
  right
  have hc : Try.prog.cellsOf 40 = 4 := by kernel_rfl
  rw [hc] at hx
  have hlm : len ≤ m := by rw [hm]; split <;> omega
  have each : ∀ i, i < len → ∃ y : ActD, (y.at_ < 18446744073709551616 ∧ y.by_ < 18446744073709551616) ∧ ∀ r v, (acell y)[r]? = some v → w.cell? (a.add (i * 4 + r)) = some v := by
    intro i hi
    obtain ⟨cs', h1, h2⟩ := hx i (by omega)
    obtain ⟨_, hlen, hcell⟩ := World.cells?_some h1
    match cs', hlen with
    | [c0, c1, c2, c3], _ =>
      obtain ⟨y0, y1, y2, y3, k, _, _, g0, g1, g2, g3⟩ := trod_struct4 Try.underlying40 h2
      have c3' : Try.prog.cellsOf 3 = 1 := by kernel_rfl
      have c9' : Try.prog.cellsOf 9 = 1 := by kernel_rfl
      have c22' : Try.prog.cellsOf 22 = 1 := by kernel_rfl
      simp only [c3', c9', c22', List.drop_succ_cons, List.drop_zero, List.take_succ_cons, List.take_zero] at g0 g1 g2 g3
      obtain ⟨k0, e0, _⟩ := DataW.trod_int Try.underlying3 g0
      obtain ⟨s1, e1, _⟩ := DataW.trod_string Try.underlying9 g1
      obtain ⟨n2, e2, l2⟩ := trod_u64 g2
      obtain ⟨n3, e3, l3⟩ := trod_u64 g3
      cases e0; cases e1; cases e2; cases e3
      refine ⟨⟨k0, s1, n2, n3⟩, ⟨l2, l3⟩, fun r v hr => ?_⟩
      have hr4 : r < 4 := by
        by_cases hlt : r < 4
        · exact hlt
        · rw [List.getElem?_eq_none (by show 4 ≤ r; omega)] at hr
          cases hr
      have := hcell r hr4
      rw [add_add] at this
      rw [this]
      exact hr
  obtain ⟨f, hf⟩ := choose_lt each
  refine ⟨a, len, cap, (List.range len).map f, rfl, hcap, by simp, ?_, ?_⟩
  · intro y hy
    obtain ⟨i, hi, rfl⟩ := List.mem_map.1 hy
    exact (hf i (List.mem_range.1 hi)).1
  · intro i y hy
    rw [List.getElem?_map] at hy
    obtain ⟨j, hj, rfl⟩ := Option.map_eq_some_iff.1 hy
    have hi : i < len := by
      by_cases hlt : i < len
      · exact hlt
      · rw [List.getElem?_eq_none (by simp; omega)] at hj
        cases hj
    have : j = i := by simpa [List.getElem?_range hi] using hj.symm
    subst this
    exact (hf j hi).2

/-- Numbers in a slice. -/
theorem open_u64s {fuel : Nat} {cs : List Value} {x : DataW H × List MemPlace} (h : DataW.trod enc Try.prog w base spare held fuel 23 cs = some x) :
    cs = [.slice none 0 0] ∨ ∃ (a : Addr) (len cap : Nat) (l : List Nat), cs = [.slice (some a) len cap] ∧ cap ≤ maxLen ∧ l.length = len ∧ (∀ y ∈ l, y < 18446744073709551616) ∧
      ∀ (i y : Nat), l[i]? = some y → w.cell? (a.add i) = some (.int .u64 (y : Int)) := by
  rcases open_slice1 Try.underlying23 (by kernel_rfl) h with ⟨h0, _⟩ | ⟨a, len, cap, m, n, V, D, Pl, rfl, _, hl, hcap, hm, _, hx⟩
  · exact .inl h0
  right
  have hlm : len ≤ m := by rw [hm]; split <;> omega
  have each : ∀ i, i < len → ∃ y : Nat, y < 18446744073709551616 ∧ w.cell? (a.add i) = some (.int .u64 (y : Int)) := by
    intro i hi
    obtain ⟨h1, h2⟩ := hx i (by omega)
    obtain ⟨y, e, hy⟩ := trod_u64 h2
    simp only [List.cons.injEq, and_true] at e
    exact ⟨y, hy, by rw [h1, e]⟩
  obtain ⟨f, hf⟩ := choose_lt each
  refine ⟨a, len, cap, (List.range len).map f, rfl, hcap, by simp, ?_, ?_⟩
  · intro y hy
    obtain ⟨i, hi, rfl⟩ := List.mem_map.1 hy
    exact (hf i (List.mem_range.1 hi)).1
  · intro i y hy
    rw [List.getElem?_map] at hy
    obtain ⟨j, hj, rfl⟩ := Option.map_eq_some_iff.1 hy
    have hi : i < len := by
      by_cases hlt : i < len
      · exact hlt
      · rw [List.getElem?_eq_none (by simp; omega)] at hj
        cases hj
    have : j = i := by simpa [List.getElem?_range hi] using hj.symm
    subst this
    exact (hf j hi).2

/-- Two numbers. -/
theorem open_two {v : Value} {d : DataW H} {p : List MemPlace} {base' : Nat} (hv : Value.okWide Try.prog w .any base' 38 v) (h : DataW.Trod enc Try.prog w base spare held 38 v d p) : ∃ b0 b1 : Nat, v = .agg #[.int .u64 (b0 : Int), .int .u64 (b1 : Int)] ∧ b0 < 18446744073709551616 ∧ b1 < 18446744073709551616 := by
  obtain ⟨cs, rfl, hsz, _⟩ : ∃ cs, v = .agg cs ∧ cs.size = Try.prog.cellsOf 38 ∧ Row.okWide Try.prog w .any base' 38 cs := by
    unfold Value.okWide at hv
    rw [Try.underlying38] at hv
    exact hv
  have h2 : Try.prog.cellsOf 38 = 2 := by kernel_rfl
  rw [h2] at hsz
  obtain ⟨l⟩ := cs
  match l, hsz with
  | [c0, c1], _ =>
    obtain ⟨fuel, hf⟩ := h
    have hf : DataW.trod enc Try.prog w base spare held fuel 38 [c0, c1] = some (d, p) := hf
    obtain ⟨xs, m, _, _, _, hxl, hg⟩ := DataW.trod_array Try.underlying38 hf
    have c22 : Try.prog.cellsOf 22 = 1 := by kernel_rfl
    match xs, hxl with
    | [y0, y1], _ =>
      have g0 := hg 0 (by omega)
      have g1 := hg 1 (by omega)
      simp only [c22, Nat.zero_mul, Nat.mul_one, List.drop_succ_cons, List.drop_zero, List.take_succ_cons, List.take_zero] at g0 g1
      obtain ⟨n0, e0, l0⟩ := trod_u64 g0
      obtain ⟨n1, e1, l1⟩ := trod_u64 g1
      cases e0; cases e1
      exact ⟨n0, n1, rfl, l0, l1⟩

/-- A slice that a row hands in lies at a plain place. -/
theorem spot_none {t e : TypeId} {a : Addr} {len cap : Nat} (ht : Try.prog.underlying t = some (.slice e)) (hv : Value.okWide Try.prog w .any base t (.slice (some a) len cap)) : a.spot = none := by
  unfold Value.okWide Cell.okWide Cell.ok at hv
  rw [ht] at hv
  exact hv.2.2.2.1
end

theorem add_plain {b o i : Nat} : (⟨b, o, none⟩ : Addr).add i = ⟨b, o + i, none⟩ := by
  unfold Addr.add
  split
  · rename_i h; subst h; rfl
  · rfl
end Go.Proofs.Ytpmpclieclcbdaa
