/- The law 'WheelDue': the walk. -/
import Derived.Test.YtpmpclieclcbdaaP09
import Derived.Test.YtpmpclieclcbdaaRows
import Derived.ProofKit
import Derived.Lib.SmallJoins
import Derived.Deep.Slices
set_option linter.unusedSimpArgs false
set_option linter.unusedVariables false
set_option linter.unusedSectionVars false
namespace Go.Proofs.Ytpmpclieclcbdaa
open Go Go.AE Go.Sort

variable {Z : Go.AE.Road}
set_option maxRecDepth 10000
set_option maxHeartbeats 8000000

theorem putW_abs {n : Nat} {T : Tmps} {d : Tmp} {v : Value} {K : Tmps → Prop} (P : Tmps → Prop) (hd : d < n) (hP : P (T.put d (some v))) (h : ∀ T', P T' → K T') : putW n T (some d) v K := ⟨hd, h _ hP⟩
theorem b_neqB {xo yo : Operand} {x y : Bool} : aBin2 E0 .neq 4 xo yo (.bool x) (.bool y) = some (.bool (x != y)) := by
  cases x <;> cases y <;> simp [aBin2, aBin, eqV, ti4, t4_desc]
theorem lat_lt {n b : Nat} (hn : n < 18446744073709551616) : lat n b < 18446744073709551616 := by
  unfold lat
  split <;> omega

theorem ro_none {s : Spans} {b : Nat} (h : s.length ≤ b) : (withRo E0 s).ro b = none := by
  show roTab s b = none
  unfold roTab
  rw [List.getElem?_eq_none h]; rfl
theorem SliceAt.ix2 {A : ASt} {lo : Nat} {v : Value} {ts : List (ByteArray × Nat)} (h : SliceAt A lo v ts) (hne : 0 < ts.length) : ∃ b rest tl, (∀ i : Nat, i < ts.length → aIndexAddr E0 30 v (.int .i64 (i : Int)) = some (.pointer (some ⟨b, i * 2, none⟩))) ∧ A.get b = some (.row (tcells ts ++ rest) 2 tl) ∧ lo ≤ b := by
  rcases h with ⟨rfl, rfl⟩ | ⟨b, cap, rest, tl, rfl, hb, h1, _⟩
  · simp at hne
  · exact ⟨b, rest, tl, fun i hi => by have := ix30 (b := b) (cap := cap) (off := 0) hi; rwa [Nat.zero_add] at this, hb, h1⟩
theorem WheelAt.nn {A : ASt} {W all now : Nat} {ms : List Nat} {M : TM} (h : WheelAt A W all ms now M) {b : Nat} (hb : A.get b = none) : b ∉ W :: all :: ms := by
  intro hm
  simp only [List.mem_cons] at hm
  rcases hm with e | e | e
  · have := h.row
    rw [← e, hb] at this
    cases this
  · obtain ⟨l, ck, hl, _⟩ := h.allm
    rw [← e, hb] at hl
    cases hl
  · obtain ⟨j, hj⟩ := List.getElem?_of_mem e
    obtain ⟨l, ck, hl, _⟩ := h.slot j b hj
    rw [hb] at hl
    cases hl

/-- The wheel and the deadlines, in the midst of the law. -/
structure Due (lo : Nat) (A : ASt) (W all : Nat) (ms : List Nat) (now : Nat) (M : TM) (v : Value) (ats : List Nat) : Prop where
  wh : WheelAt A W all ms now M
  mt : Mt M ats
  sl : SliceU A lo v ats
  own : ∀ b ∈ W :: all :: ms, b < lo
  n0 : A.get 0 = none
  n1 : A.get 1 = none
  le : lo ≤ A.next
  two : 2 ≤ lo
theorem Due.step {lo : Nat} {A A' : ASt} {W all now now' : Nat} {ms : List Nat} {M M' : TM} {v : Value} {ats : List Nat} (h : Due lo A W all ms now M v ats) (hf : Fr (W :: all :: ms) A A') (hw : WheelAt A' W all ms now' M') (hm : Mt M' ats) : Due lo A' W all ms now' M' v ats :=
  { wh := hw, mt := hm, sl := h.sl.fr hf h.own, own := h.own
    n0 := by rw [hf.get 0 (by have := h.le; have := h.two; omega) (h.wh.nn h.n0)]; exact h.n0
    n1 := by rw [hf.get 1 (by have := h.le; have := h.two; omega) (h.wh.nn h.n1)]; exact h.n1
    le := Nat.le_trans h.le hf.next, two := h.two }

theorem Due.app {lo : Nat} {A A2 : ASt} {W all now : Nat} {ms : List Nat} {M M' : TM} {v : Value} {ats : List Nat} {a : Nat} (h : Due lo A W all ms now M v ats) (hf : Fr (W :: all :: ms) A A2) (hw : WheelAt A2 W all ms now M') (hm : Mt M' (ats ++ [a])) (hl : ats.length ≤ 1000000) :
    ∃ v' A4, aAppend E0 23 23 v (.slice (some ⟨A2.next, 0, none⟩) 1 1) (A2.new (.row [.int .u64 (a : Int)] 1 false)) = .val v' A4 ∧ Due lo A4 W all ms now M' v' (ats ++ [a]) := by
  have hlo : lo ≤ A2.next := Nat.le_trans h.le hf.next
  have h2 : SliceU A2 lo v ats := h.sl.fr hf h.own
  have hN : Fr [] A2 (A2.new (.row [.int .u64 (a : Int)] 1 false)) := ⟨by rw [ASt.next_new]; omega, fun b hb _ => by rw [ASt.get_new, if_neg (by omega)]⟩
  have h3 := h2.fr hN (by simp)
  obtain ⟨v', A4, e, h4, h5, h6⟩ := h3.app (x := A2.next) (a := a) (tl := false) (by rw [ASt.get_new, if_pos rfl]) hl (by rw [ASt.next_new]; omega)
  have hg : ∀ b, b < lo → A4.get b = A2.get b := fun b hb => by rw [h6 b hb, ASt.get_new, if_neg (by omega)]
  have hnx : A2.next ≤ A4.next := by rw [ASt.next_new] at h5; omega
  have h0 := hf.get 0 (by have := h.le; have := h.two; omega) (h.wh.nn h.n0)
  have h1 := hf.get 1 (by have := h.le; have := h.two; omega) (h.wh.nn h.n1)
  exact ⟨v', A4, e,
    { wh := hw.congr hnx (fun b hb => hg b (h.own b hb)), mt := hm, sl := h4, own := h.own
      n0 := by rw [hg 0 (by have := h.two; omega), h0]; exact h.n0
      n1 := by rw [hg 1 (by have := h.two; omega), h1]; exact h.n1
      le := Nat.le_trans hlo hnx, two := h.two }⟩

theorem due_walk {s : Spans} {l leaps : List Nat} {lv pv : Value} {now : Nat} (hro : RoadRo Z (withRo E0 s)) (hs0 : roTab s 0 = some (ucells l)) (hs1 : roTab s 1 = some (ucells leaps)) (hsl : s.length = 2)
    (hll : ∀ A, aLen E0 23 lv A = some (.int .i64 (l.length : Int))) (hlx : ∀ i : Nat, i < l.length → aIndexAddr E0 23 lv (.int .i64 (i : Int)) = some (.pointer (some ⟨0, i, none⟩)))
    (hpl : ∀ A, aLen E0 23 pv A = some (.int .i64 (leaps.length : Int))) (hpx : ∀ i : Nat, i < leaps.length → aIndexAddr E0 23 pv (.int .i64 (i : Int)) = some (.pointer (some ⟨1, i, none⟩)))
    (hnow : now < 18446744073709551616) (hl : ∀ x ∈ l, x < 18446744073709551616) (hp : ∀ x ∈ leaps, x < 18446744073709551616) :
    CallW Z Try.prog 3 [.int .u64 (now : Int), lv, pv] (startAt s.length) (fun v _ => v = .bool true) := by
  refine CallW.of_code (withRo_ok E0_ok) hro (f := 3) (fn := Try.f3) fn3 rfl (n := 219) rfl (rs := [.tmp 6]) rfl (by simp) (codeW_ok (withRo_ok E0_ok) hro ?_)
  have ro0 : (withRo E0 s).ro 0 = some (ucells l) := hs0
  have ro1 : (withRo E0 s).ro 1 = some (ucells leaps) := hs1
  by_cases h1 : l.length > 40
  · have d1 : ((l.length : Int) > 40) = True := eq_true (by omega)
    simp only [oneW_next, tg_eq, tgN_eq, brW_true, brW_false, c_skip, c_ret, c_exit, c_seq, c_cond, condW_b, c_block, c_scope, c_region, c_drawn, c_loop, onw_n, onw_r, onw_e, outb_e, outb_o, outb_n, outb_r, putW_some, putW_none, opsW_arr, opsW_nil, opsW_cons, wanted_none, wanted_some, guardB_some, oneW_next, oneW_move, oneW_assign, oneW_pick, oneW_build, oneW_load, oneW_store, oneW_nilCheck, oneW_binOp, oneW_unOp, oneW_makeFunc, oneW_slice, oneW_fieldAddr, oneW_field, oneW_indexAddr, oneW_index, oneW_lookup, oneW_mapUpdate, oneW_range, oneW_entry, oneW_extract, oneW_call, oneW_alloc, oneW_box, oneW_makeMap, oneW_buildSlice, oneW_convert, Hands, handsV, resultsV, oneOrTuple, argsT, arW_val, ofVal_some, plain_val, cond_true, cond_false,
    aOp_move, aOp_assign, aOp_pick, aOp_build, aOp_load, aOp_store, aOp_nilCheck, aOp_binOp, aOp_unOp, aOp_makeFunc, aOp_slice, aOp_fieldAddr, aOp_field, aOp_indexAddr, aOp_index, aOp_lookup, aOp_mapUpdate, aOp_range, aOp_entry, aOp_extract, aOp_call, aOp_alloc, aOp_box, aOp_makeMap, aOp_buildSlice, aInvoke_func,
    nbeq, nble, nblt, cond_dec, decide_true, decide_false, decide_eq_true_eq, Bool.false_eq_true, Bool.and_true, Bool.true_and, Bool.not_true, Bool.not_false, bq_t, bq_f, ev, evs, evPairs, evOpt, closed, flat, tget_put, Nat.reduceEqDiff, Nat.reduceAdd, Nat.reduceMul, Nat.reduceSub, Nat.reduceLT, Nat.reduceLeDiff, Nat.reduceBEq, reduceIte, if_true, if_false, reduceCtorEq, nth, aCall, aEnter, notYield, aNilCheck, aLoad, partV, isAggD, aFieldAddr, aField, aExtract, b_add, b_sub, b_mul, b_xor, b_eql, b_neq, b_lss, b_leq, b_gtr, b_geq, b_shr, Option.isNone, aBuiltin,
    List.length_cons, List.length_nil, true_implies, false_implies, and_true, true_and, implies_true, forall_const, List.append_nil, List.cons_append, List.nil_append, ASt.get_set, ASt.get_new, ASt.next_set, ASt.next_new, Nat.zero_add, Nat.add_zero, eq_self, ctor_self, ti63, t63_desc, t63_size, ti25, t25_desc, ti22, t22_desc, t22_size, ti59, t59_desc, t59_size, ti60, t60_desc, t60_size, ti61, t61_desc, t61_size, ti3, t3_desc, t3_size, ti40, t40_desc, t40_size, ti33, t33_desc, t33_size, ti9, t9_desc, t9_size, wrow_now, wrow_all, eqnil25, fn17, fn26, fn27, fn28, fn29, fn38, fn39, fn12, fn14, fn15, wti, wfn, wbin, wbox, wlen, wix, wcv, wbs, wapp, wst, widx, aOp_convert, fc35, fc53, fc29, qc35, qc53, qc29, cv35, cv53, hll, d1, fn9]
    refine CallT.mono alive_spec ?_
    rintro _ _ ⟨rfl, rfl⟩
    simp only [oneW_next, tg_eq, tgN_eq, brW_true, brW_false, c_skip, c_ret, c_exit, c_seq, c_cond, condW_b, c_block, c_scope, c_region, c_drawn, c_loop, onw_n, onw_r, onw_e, outb_e, outb_o, outb_n, outb_r, putW_some, putW_none, opsW_arr, opsW_nil, opsW_cons, wanted_none, wanted_some, guardB_some, oneW_next, oneW_move, oneW_assign, oneW_pick, oneW_build, oneW_load, oneW_store, oneW_nilCheck, oneW_binOp, oneW_unOp, oneW_makeFunc, oneW_slice, oneW_fieldAddr, oneW_field, oneW_indexAddr, oneW_index, oneW_lookup, oneW_mapUpdate, oneW_range, oneW_entry, oneW_extract, oneW_call, oneW_alloc, oneW_box, oneW_makeMap, oneW_buildSlice, oneW_convert, Hands, handsV, resultsV, oneOrTuple, argsT, arW_val, ofVal_some, plain_val, cond_true, cond_false,
    aOp_move, aOp_assign, aOp_pick, aOp_build, aOp_load, aOp_store, aOp_nilCheck, aOp_binOp, aOp_unOp, aOp_makeFunc, aOp_slice, aOp_fieldAddr, aOp_field, aOp_indexAddr, aOp_index, aOp_lookup, aOp_mapUpdate, aOp_range, aOp_entry, aOp_extract, aOp_call, aOp_alloc, aOp_box, aOp_makeMap, aOp_buildSlice, aInvoke_func,
    nbeq, nble, nblt, cond_dec, decide_true, decide_false, decide_eq_true_eq, Bool.false_eq_true, Bool.and_true, Bool.true_and, Bool.not_true, Bool.not_false, bq_t, bq_f, ev, evs, evPairs, evOpt, closed, flat, tget_put, Nat.reduceEqDiff, Nat.reduceAdd, Nat.reduceMul, Nat.reduceSub, Nat.reduceLT, Nat.reduceLeDiff, Nat.reduceBEq, reduceIte, if_true, if_false, reduceCtorEq, nth, aCall, aEnter, notYield, aNilCheck, aLoad, partV, isAggD, aFieldAddr, aField, aExtract, b_add, b_sub, b_mul, b_xor, b_eql, b_neq, b_lss, b_leq, b_gtr, b_geq, b_shr, Option.isNone, aBuiltin,
    List.length_cons, List.length_nil, true_implies, false_implies, and_true, true_and, implies_true, forall_const, List.append_nil, List.cons_append, List.nil_append, ASt.get_set, ASt.get_new, ASt.next_set, ASt.next_new, Nat.zero_add, Nat.add_zero, eq_self, ctor_self, ti63, t63_desc, t63_size, ti25, t25_desc, ti22, t22_desc, t22_size, ti59, t59_desc, t59_size, ti60, t60_desc, t60_size, ti61, t61_desc, t61_size, ti3, t3_desc, t3_size, ti40, t40_desc, t40_size, ti33, t33_desc, t33_size, ti9, t9_desc, t9_size, wrow_now, wrow_all, eqnil25, fn17, fn26, fn27, fn28, fn29, fn38, fn39, fn12, fn14, fn15, wti, wfn, wbin, wbox, wlen, wix, wcv, wbs, wapp, wst, widx, aOp_convert, fc35, fc53, fc29, qc35, qc53, qc29, cv35, cv53]
  have d1 : ((l.length : Int) > 40) = False := eq_false (by omega)
  by_cases h2 : leaps.length > 40
  · have d2 : ((leaps.length : Int) > 40) = True := eq_true (by omega)
    simp only [oneW_next, tg_eq, tgN_eq, brW_true, brW_false, c_skip, c_ret, c_exit, c_seq, c_cond, condW_b, c_block, c_scope, c_region, c_drawn, c_loop, onw_n, onw_r, onw_e, outb_e, outb_o, outb_n, outb_r, putW_some, putW_none, opsW_arr, opsW_nil, opsW_cons, wanted_none, wanted_some, guardB_some, oneW_next, oneW_move, oneW_assign, oneW_pick, oneW_build, oneW_load, oneW_store, oneW_nilCheck, oneW_binOp, oneW_unOp, oneW_makeFunc, oneW_slice, oneW_fieldAddr, oneW_field, oneW_indexAddr, oneW_index, oneW_lookup, oneW_mapUpdate, oneW_range, oneW_entry, oneW_extract, oneW_call, oneW_alloc, oneW_box, oneW_makeMap, oneW_buildSlice, oneW_convert, Hands, handsV, resultsV, oneOrTuple, argsT, arW_val, ofVal_some, plain_val, cond_true, cond_false,
    aOp_move, aOp_assign, aOp_pick, aOp_build, aOp_load, aOp_store, aOp_nilCheck, aOp_binOp, aOp_unOp, aOp_makeFunc, aOp_slice, aOp_fieldAddr, aOp_field, aOp_indexAddr, aOp_index, aOp_lookup, aOp_mapUpdate, aOp_range, aOp_entry, aOp_extract, aOp_call, aOp_alloc, aOp_box, aOp_makeMap, aOp_buildSlice, aInvoke_func,
    nbeq, nble, nblt, cond_dec, decide_true, decide_false, decide_eq_true_eq, Bool.false_eq_true, Bool.and_true, Bool.true_and, Bool.not_true, Bool.not_false, bq_t, bq_f, ev, evs, evPairs, evOpt, closed, flat, tget_put, Nat.reduceEqDiff, Nat.reduceAdd, Nat.reduceMul, Nat.reduceSub, Nat.reduceLT, Nat.reduceLeDiff, Nat.reduceBEq, reduceIte, if_true, if_false, reduceCtorEq, nth, aCall, aEnter, notYield, aNilCheck, aLoad, partV, isAggD, aFieldAddr, aField, aExtract, b_add, b_sub, b_mul, b_xor, b_eql, b_neq, b_lss, b_leq, b_gtr, b_geq, b_shr, Option.isNone, aBuiltin,
    List.length_cons, List.length_nil, true_implies, false_implies, and_true, true_and, implies_true, forall_const, List.append_nil, List.cons_append, List.nil_append, ASt.get_set, ASt.get_new, ASt.next_set, ASt.next_new, Nat.zero_add, Nat.add_zero, eq_self, ctor_self, ti63, t63_desc, t63_size, ti25, t25_desc, ti22, t22_desc, t22_size, ti59, t59_desc, t59_size, ti60, t60_desc, t60_size, ti61, t61_desc, t61_size, ti3, t3_desc, t3_size, ti40, t40_desc, t40_size, ti33, t33_desc, t33_size, ti9, t9_desc, t9_size, wrow_now, wrow_all, eqnil25, fn17, fn26, fn27, fn28, fn29, fn38, fn39, fn12, fn14, fn15, wti, wfn, wbin, wbox, wlen, wix, wcv, wbs, wapp, wst, widx, aOp_convert, fc35, fc53, fc29, qc35, qc53, qc29, cv35, cv53, hll, hpl, d1, d2, fn9]
    refine CallT.mono alive_spec ?_
    rintro _ _ ⟨rfl, rfl⟩
    simp only [oneW_next, tg_eq, tgN_eq, brW_true, brW_false, c_skip, c_ret, c_exit, c_seq, c_cond, condW_b, c_block, c_scope, c_region, c_drawn, c_loop, onw_n, onw_r, onw_e, outb_e, outb_o, outb_n, outb_r, putW_some, putW_none, opsW_arr, opsW_nil, opsW_cons, wanted_none, wanted_some, guardB_some, oneW_next, oneW_move, oneW_assign, oneW_pick, oneW_build, oneW_load, oneW_store, oneW_nilCheck, oneW_binOp, oneW_unOp, oneW_makeFunc, oneW_slice, oneW_fieldAddr, oneW_field, oneW_indexAddr, oneW_index, oneW_lookup, oneW_mapUpdate, oneW_range, oneW_entry, oneW_extract, oneW_call, oneW_alloc, oneW_box, oneW_makeMap, oneW_buildSlice, oneW_convert, Hands, handsV, resultsV, oneOrTuple, argsT, arW_val, ofVal_some, plain_val, cond_true, cond_false,
    aOp_move, aOp_assign, aOp_pick, aOp_build, aOp_load, aOp_store, aOp_nilCheck, aOp_binOp, aOp_unOp, aOp_makeFunc, aOp_slice, aOp_fieldAddr, aOp_field, aOp_indexAddr, aOp_index, aOp_lookup, aOp_mapUpdate, aOp_range, aOp_entry, aOp_extract, aOp_call, aOp_alloc, aOp_box, aOp_makeMap, aOp_buildSlice, aInvoke_func,
    nbeq, nble, nblt, cond_dec, decide_true, decide_false, decide_eq_true_eq, Bool.false_eq_true, Bool.and_true, Bool.true_and, Bool.not_true, Bool.not_false, bq_t, bq_f, ev, evs, evPairs, evOpt, closed, flat, tget_put, Nat.reduceEqDiff, Nat.reduceAdd, Nat.reduceMul, Nat.reduceSub, Nat.reduceLT, Nat.reduceLeDiff, Nat.reduceBEq, reduceIte, if_true, if_false, reduceCtorEq, nth, aCall, aEnter, notYield, aNilCheck, aLoad, partV, isAggD, aFieldAddr, aField, aExtract, b_add, b_sub, b_mul, b_xor, b_eql, b_neq, b_lss, b_leq, b_gtr, b_geq, b_shr, Option.isNone, aBuiltin,
    List.length_cons, List.length_nil, true_implies, false_implies, and_true, true_and, implies_true, forall_const, List.append_nil, List.cons_append, List.nil_append, ASt.get_set, ASt.get_new, ASt.next_set, ASt.next_new, Nat.zero_add, Nat.add_zero, eq_self, ctor_self, ti63, t63_desc, t63_size, ti25, t25_desc, ti22, t22_desc, t22_size, ti59, t59_desc, t59_size, ti60, t60_desc, t60_size, ti61, t61_desc, t61_size, ti3, t3_desc, t3_size, ti40, t40_desc, t40_size, ti33, t33_desc, t33_size, ti9, t9_desc, t9_size, wrow_now, wrow_all, eqnil25, fn17, fn26, fn27, fn28, fn29, fn38, fn39, fn12, fn14, fn15, wti, wfn, wbin, wbox, wlen, wix, wcv, wbs, wapp, wst, widx, aOp_convert, fc35, fc53, fc29, qc35, qc53, qc29, cv35, cv53]
  have d2 : ((leaps.length : Int) > 40) = False := eq_false (by omega)
  simp only [oneW_next, tg_eq, tgN_eq, brW_true, brW_false, c_skip, c_ret, c_exit, c_seq, c_cond, condW_b, c_block, c_scope, c_region, c_drawn, c_loop, onw_n, onw_r, onw_e, outb_e, outb_o, outb_n, outb_r, putW_some, putW_none, opsW_arr, opsW_nil, opsW_cons, wanted_none, wanted_some, guardB_some, oneW_next, oneW_move, oneW_assign, oneW_pick, oneW_build, oneW_load, oneW_store, oneW_nilCheck, oneW_binOp, oneW_unOp, oneW_makeFunc, oneW_slice, oneW_fieldAddr, oneW_field, oneW_indexAddr, oneW_index, oneW_lookup, oneW_mapUpdate, oneW_range, oneW_entry, oneW_extract, oneW_call, oneW_alloc, oneW_box, oneW_makeMap, oneW_buildSlice, oneW_convert, Hands, handsV, resultsV, oneOrTuple, argsT, arW_val, ofVal_some, plain_val, cond_true, cond_false,
    aOp_move, aOp_assign, aOp_pick, aOp_build, aOp_load, aOp_store, aOp_nilCheck, aOp_binOp, aOp_unOp, aOp_makeFunc, aOp_slice, aOp_fieldAddr, aOp_field, aOp_indexAddr, aOp_index, aOp_lookup, aOp_mapUpdate, aOp_range, aOp_entry, aOp_extract, aOp_call, aOp_alloc, aOp_box, aOp_makeMap, aOp_buildSlice, aInvoke_func,
    nbeq, nble, nblt, cond_dec, decide_true, decide_false, decide_eq_true_eq, Bool.false_eq_true, Bool.and_true, Bool.true_and, Bool.not_true, Bool.not_false, bq_t, bq_f, ev, evs, evPairs, evOpt, closed, flat, tget_put, Nat.reduceEqDiff, Nat.reduceAdd, Nat.reduceMul, Nat.reduceSub, Nat.reduceLT, Nat.reduceLeDiff, Nat.reduceBEq, reduceIte, if_true, if_false, reduceCtorEq, nth, aCall, aEnter, notYield, aNilCheck, aLoad, partV, isAggD, aFieldAddr, aField, aExtract, b_add, b_sub, b_mul, b_xor, b_eql, b_neq, b_lss, b_leq, b_gtr, b_geq, b_shr, Option.isNone, aBuiltin,
    List.length_cons, List.length_nil, true_implies, false_implies, and_true, true_and, implies_true, forall_const, List.append_nil, List.cons_append, List.nil_append, ASt.get_set, ASt.get_new, ASt.next_set, ASt.next_new, Nat.zero_add, Nat.add_zero, eq_self, ctor_self, ti63, t63_desc, t63_size, ti25, t25_desc, ti22, t22_desc, t22_size, ti59, t59_desc, t59_size, ti60, t60_desc, t60_size, ti61, t61_desc, t61_size, ti3, t3_desc, t3_size, ti40, t40_desc, t40_size, ti33, t33_desc, t33_size, ti9, t9_desc, t9_size, wrow_now, wrow_all, eqnil25, fn17, fn26, fn27, fn28, fn29, fn38, fn39, fn12, fn14, fn15, wti, wfn, wbin, wbox, wlen, wix, wcv, wbs, wapp, wst, widx, aOp_convert, fc35, fc53, fc29, qc35, qc53, qc29, cv35, cv53, hll, hpl, d1, d2, fn10]
  refine CallT.mono (new_walk hnow) ?_
  have c0 : (startAt s.length).get 0 = none := rfl
  have c1 : (startAt s.length).get 1 = none := rfl
  have hCn : (startAt s.length).next = s.length := rfl
  rintro v B ⟨W, all, ms, rfl, hw, fB, hWn⟩
  have b0 : B.get 0 = none := (fB.get 0 (by omega) (by simp)).trans c0
  have b1 : B.get 1 = none := (fB.get 1 (by omega) (by simp)).trans c1
  simp only [oneW_next, tg_eq, tgN_eq, brW_true, brW_false, c_skip, c_ret, c_exit, c_seq, c_cond, condW_b, c_block, c_scope, c_region, c_drawn, c_loop, onw_n, onw_r, onw_e, outb_e, outb_o, outb_n, outb_r, putW_some, putW_none, opsW_arr, opsW_nil, opsW_cons, wanted_none, wanted_some, guardB_some, oneW_next, oneW_move, oneW_assign, oneW_pick, oneW_build, oneW_load, oneW_store, oneW_nilCheck, oneW_binOp, oneW_unOp, oneW_makeFunc, oneW_slice, oneW_fieldAddr, oneW_field, oneW_indexAddr, oneW_index, oneW_lookup, oneW_mapUpdate, oneW_range, oneW_entry, oneW_extract, oneW_call, oneW_alloc, oneW_box, oneW_makeMap, oneW_buildSlice, oneW_convert, Hands, handsV, resultsV, oneOrTuple, argsT, arW_val, ofVal_some, plain_val, cond_true, cond_false,
    aOp_move, aOp_assign, aOp_pick, aOp_build, aOp_load, aOp_store, aOp_nilCheck, aOp_binOp, aOp_unOp, aOp_makeFunc, aOp_slice, aOp_fieldAddr, aOp_field, aOp_indexAddr, aOp_index, aOp_lookup, aOp_mapUpdate, aOp_range, aOp_entry, aOp_extract, aOp_call, aOp_alloc, aOp_box, aOp_makeMap, aOp_buildSlice, aInvoke_func,
    nbeq, nble, nblt, cond_dec, decide_true, decide_false, decide_eq_true_eq, Bool.false_eq_true, Bool.and_true, Bool.true_and, Bool.not_true, Bool.not_false, bq_t, bq_f, ev, evs, evPairs, evOpt, closed, flat, tget_put, Nat.reduceEqDiff, Nat.reduceAdd, Nat.reduceMul, Nat.reduceSub, Nat.reduceLT, Nat.reduceLeDiff, Nat.reduceBEq, reduceIte, if_true, if_false, reduceCtorEq, nth, aCall, aEnter, notYield, aNilCheck, aLoad, partV, isAggD, aFieldAddr, aField, aExtract, b_add, b_sub, b_mul, b_xor, b_eql, b_neq, b_lss, b_leq, b_gtr, b_geq, b_shr, Option.isNone, aBuiltin,
    List.length_cons, List.length_nil, true_implies, false_implies, and_true, true_and, implies_true, forall_const, List.append_nil, List.cons_append, List.nil_append, ASt.get_set, ASt.get_new, ASt.next_set, ASt.next_new, Nat.zero_add, Nat.add_zero, eq_self, ctor_self, ti63, t63_desc, t63_size, ti25, t25_desc, ti22, t22_desc, t22_size, ti59, t59_desc, t59_size, ti60, t60_desc, t60_size, ti61, t61_desc, t61_size, ti3, t3_desc, t3_size, ti40, t40_desc, t40_size, ti33, t33_desc, t33_size, ti9, t9_desc, t9_size, wrow_now, wrow_all, eqnil25, fn17, fn26, fn27, fn28, fn29, fn38, fn39, fn12, fn14, fn15, wti, wfn, wbin, wbox, wlen, wix, wcv, wbs, wapp, wst, widx, aOp_convert, fc35, fc53, fc29, qc35, qc53, qc29, cv35, cv53, eqnil25]
  have hBn : s.length ≤ B.next := by have := fB.next; simp only [hCn] at this; exact this
  have hd0 : Due B.next B W all ms now (fun _ => none) (.slice none 0 0) [] :=
    { wh := hw, mt := .nil, sl := .inl ⟨rfl, rfl⟩, own := hw.below, n0 := b0, n1 := b1, le := Nat.le_refl _, two := by omega }
  refine CodeW.mono (Q := fun o => ∃ T' A' M v8 ats, o = .fr ⟨.exit 0, T', A'⟩ ∧ tget T' 0 = .int .u64 (now : Int) ∧ tget T' 2 = pv ∧ tget T' 7 = .pointer (some ⟨W, 0, none⟩) ∧ tget T' 8 = v8 ∧ ats.length ≤ 40 ∧ Due B.next A' W all ms now M v8 ats) ?_ ?_
  · refine CodeW.loopR (k := l.length) (fun k T A' => ∃ i M v8 ats, k = l.length - i ∧ i ≤ l.length ∧ tget T 9 = .int .i64 (i : Int) ∧ tget T 0 = .int .u64 (now : Int) ∧ tget T 1 = lv ∧ tget T 2 = pv ∧ tget T 7 = .pointer (some ⟨W, 0, none⟩) ∧ tget T 8 = v8 ∧ ats.length = i ∧ Due B.next A' W all ms now M v8 ats) ?_ ⟨0, _, _, [], rfl, by omega, ?_, ?_, ?_, ?_, ?_, ?_, rfl, hd0⟩
    · rintro k T A1 ⟨i, M, v8, ats, rfl, hi, u9, u0, u1, u2, u7, u8, hat, hd⟩
      refine codeW_ok (withRo_ok E0_ok) hro ?_
      by_cases e1 : i < l.length
      · have d3 : ((i : Int) < (l.length : Int)) = True := eq_true (by omega)
        have hx : l[i]? = some l[i] := List.getElem?_eq_getElem _
        have hxm : l[i] ∈ l := List.getElem_mem _
        generalize l[i] = x at hx hxm
        have g0 := ucells_nth hx
        have hx1 := hlx i e1
        have a0 := hd.n0
        simp only [oneW_next, tg_eq, tgN_eq, brW_true, brW_false, c_skip, c_ret, c_exit, c_seq, c_cond, condW_b, c_block, c_scope, c_region, c_drawn, c_loop, onw_n, onw_r, onw_e, outb_e, outb_o, outb_n, outb_r, putW_some, putW_none, opsW_arr, opsW_nil, opsW_cons, wanted_none, wanted_some, guardB_some, oneW_next, oneW_move, oneW_assign, oneW_pick, oneW_build, oneW_load, oneW_store, oneW_nilCheck, oneW_binOp, oneW_unOp, oneW_makeFunc, oneW_slice, oneW_fieldAddr, oneW_field, oneW_indexAddr, oneW_index, oneW_lookup, oneW_mapUpdate, oneW_range, oneW_entry, oneW_extract, oneW_call, oneW_alloc, oneW_box, oneW_makeMap, oneW_buildSlice, oneW_convert, Hands, handsV, resultsV, oneOrTuple, argsT, arW_val, ofVal_some, plain_val, cond_true, cond_false,
    aOp_move, aOp_assign, aOp_pick, aOp_build, aOp_load, aOp_store, aOp_nilCheck, aOp_binOp, aOp_unOp, aOp_makeFunc, aOp_slice, aOp_fieldAddr, aOp_field, aOp_indexAddr, aOp_index, aOp_lookup, aOp_mapUpdate, aOp_range, aOp_entry, aOp_extract, aOp_call, aOp_alloc, aOp_box, aOp_makeMap, aOp_buildSlice, aInvoke_func,
    nbeq, nble, nblt, cond_dec, decide_true, decide_false, decide_eq_true_eq, Bool.false_eq_true, Bool.and_true, Bool.true_and, Bool.not_true, Bool.not_false, bq_t, bq_f, ev, evs, evPairs, evOpt, closed, flat, tget_put, Nat.reduceEqDiff, Nat.reduceAdd, Nat.reduceMul, Nat.reduceSub, Nat.reduceLT, Nat.reduceLeDiff, Nat.reduceBEq, reduceIte, if_true, if_false, reduceCtorEq, nth, aCall, aEnter, notYield, aNilCheck, aLoad, partV, isAggD, aFieldAddr, aField, aExtract, b_add, b_sub, b_mul, b_xor, b_eql, b_neq, b_lss, b_leq, b_gtr, b_geq, b_shr, Option.isNone, aBuiltin,
    List.length_cons, List.length_nil, true_implies, false_implies, and_true, true_and, implies_true, forall_const, List.append_nil, List.cons_append, List.nil_append, ASt.get_set, ASt.get_new, ASt.next_set, ASt.next_new, Nat.zero_add, Nat.add_zero, eq_self, ctor_self, ti63, t63_desc, t63_size, ti25, t25_desc, ti22, t22_desc, t22_size, ti59, t59_desc, t59_size, ti60, t60_desc, t60_size, ti61, t61_desc, t61_size, ti3, t3_desc, t3_size, ti40, t40_desc, t40_size, ti33, t33_desc, t33_size, ti9, t9_desc, t9_size, wrow_now, wrow_all, eqnil25, fn17, fn26, fn27, fn28, fn29, fn38, fn39, fn12, fn14, fn15, wti, wfn, wbin, wbox, wlen, wix, wcv, wbs, wapp, wst, widx, aOp_convert, fc35, fc53, fc29, qc35, qc53, qc29, cv35, cv53, u9, u0, u1, u7, hll, d3, hx1, a0, ro0, g0, fn11]
        refine CallT.mono (later_spec hnow (hl x hxm)) ?_
        rintro _ A3 ⟨rfl, rfl⟩
        have e190 : (i < 190) = True := eq_true (by omega)
        have htl := lat_lt (b := x) hnow
        have htn : now ≤ lat now x ∧ (now < lat now x → 0 < x) := by
          unfold lat
          split <;> constructor <;> omega
        generalize lat now x = t at htl htn
        simp only [oneW_next, tg_eq, tgN_eq, brW_true, brW_false, c_skip, c_ret, c_exit, c_seq, c_cond, condW_b, c_block, c_scope, c_region, c_drawn, c_loop, onw_n, onw_r, onw_e, outb_e, outb_o, outb_n, outb_r, putW_some, putW_none, opsW_arr, opsW_nil, opsW_cons, wanted_none, wanted_some, guardB_some, oneW_next, oneW_move, oneW_assign, oneW_pick, oneW_build, oneW_load, oneW_store, oneW_nilCheck, oneW_binOp, oneW_unOp, oneW_makeFunc, oneW_slice, oneW_fieldAddr, oneW_field, oneW_indexAddr, oneW_index, oneW_lookup, oneW_mapUpdate, oneW_range, oneW_entry, oneW_extract, oneW_call, oneW_alloc, oneW_box, oneW_makeMap, oneW_buildSlice, oneW_convert, Hands, handsV, resultsV, oneOrTuple, argsT, arW_val, ofVal_some, plain_val, cond_true, cond_false,
    aOp_move, aOp_assign, aOp_pick, aOp_build, aOp_load, aOp_store, aOp_nilCheck, aOp_binOp, aOp_unOp, aOp_makeFunc, aOp_slice, aOp_fieldAddr, aOp_field, aOp_indexAddr, aOp_index, aOp_lookup, aOp_mapUpdate, aOp_range, aOp_entry, aOp_extract, aOp_call, aOp_alloc, aOp_box, aOp_makeMap, aOp_buildSlice, aInvoke_func,
    nbeq, nble, nblt, cond_dec, decide_true, decide_false, decide_eq_true_eq, Bool.false_eq_true, Bool.and_true, Bool.true_and, Bool.not_true, Bool.not_false, bq_t, bq_f, ev, evs, evPairs, evOpt, closed, flat, tget_put, Nat.reduceEqDiff, Nat.reduceAdd, Nat.reduceMul, Nat.reduceSub, Nat.reduceLT, Nat.reduceLeDiff, Nat.reduceBEq, reduceIte, if_true, if_false, reduceCtorEq, nth, aCall, aEnter, notYield, aNilCheck, aLoad, partV, isAggD, aFieldAddr, aField, aExtract, b_add, b_sub, b_mul, b_xor, b_eql, b_neq, b_lss, b_leq, b_gtr, b_geq, b_shr, Option.isNone, aBuiltin,
    List.length_cons, List.length_nil, true_implies, false_implies, and_true, true_and, implies_true, forall_const, List.append_nil, List.cons_append, List.nil_append, ASt.get_set, ASt.get_new, ASt.next_set, ASt.next_new, Nat.zero_add, Nat.add_zero, eq_self, ctor_self, ti63, t63_desc, t63_size, ti25, t25_desc, ti22, t22_desc, t22_size, ti59, t59_desc, t59_size, ti60, t60_desc, t60_size, ti61, t61_desc, t61_size, ti3, t3_desc, t3_size, ti40, t40_desc, t40_size, ti33, t33_desc, t33_size, ti9, t9_desc, t9_size, wrow_now, wrow_all, eqnil25, fn17, fn26, fn27, fn28, fn29, fn38, fn39, fn12, fn14, fn15, wti, wfn, wbin, wbox, wlen, wix, wcv, wbs, wapp, wst, widx, aOp_convert, fc35, fc53, fc29, qc35, qc53, qc29, cv35, cv53, u9, u0, u1, u7]
        refine CodeW.mono (Q := fun o => ∃ T' A', o = .fr ⟨.normal, T', A'⟩ ∧ tget T' 60 = .bool false ∧ tget T' 0 = .int .u64 (now : Int) ∧ tget T' 1 = lv ∧ tget T' 2 = pv ∧ tget T' 7 = .pointer (some ⟨W, 0, none⟩) ∧ tget T' 8 = v8 ∧ tget T' 9 = .int .i64 (i : Int) ∧ tget T' 10 = .int .u64 (t : Int) ∧ WheelAt A' W all ms now (if now < t then M.put (nm i) t else M) ∧ Fr (W :: all :: ms) A3 A') ?_ ?_
        · refine CodeW.seqd (withRo_ok E0_ok) hro mixed R8_ok [0, 1, 2, 3, 6, 8, 9, 10, 11, 12, 4, 5, 7, 13, 14, 15, 16, 17, 18] [5, 6, 7, 8, 9] (by simp only [reorder, reoGo, strip, List.map_cons, List.map_nil, opAt, remap, nth, Option.map, σ, place', nbeq, List.length_cons, List.length_nil, Nat.reduceAdd, Nat.reduceLT, Nat.reduceEqDiff, if_true, if_false, reduceIte]; rfl) (by decide +kernel) (by kernel_rfl) (by kernel_rfl) (by kernel_rfl) ?_
          have hcv : aConvert E0 29 9 (.slice (some ⟨A3.next + 10, 0, none⟩) 1 1) (({ heap := A3.heap, next := A3.next + 19 } : ASt).set (A3.next + 10) (.row [.int .u8 ((65 + i : Nat) : Int)] 1 false)) = some (.string (nm i)) := cv29 (by omega) (by rw [ASt.get_set, if_pos rfl])
          have hwF : WheelAt (({ heap := A3.heap, next := A3.next + 19 } : ASt).set (A3.next + 10) (.row [.int .u8 ((65 + i : Nat) : Int)] 1 false)) W all ms now M := hd.wh.congr (by rw [ASt.next_set]; exact Nat.le_add_right _ _) (fun b hb => by
            have := hd.wh.below b hb
            rw [ASt.get_set, if_neg (by omega)]; rfl)
          have fF : Fr (W :: all :: ms) A3 (({ heap := A3.heap, next := A3.next + 19 } : ASt).set (A3.next + 10) (.row [.int .u8 ((65 + i : Nat) : Int)] 1 false)) := ⟨by rw [ASt.next_set]; exact Nat.le_add_right _ _, fun b hb _ => by rw [ASt.get_set, if_neg (by omega)]; rfl⟩
          generalize hH : (({ heap := A3.heap, next := A3.next + 19 } : ASt).set (A3.next + 10) (.row [.int .u8 ((65 + i : Nat) : Int)] 1 false)) = H at hcv hwF fF
          simp only [oneW_next, tg_eq, tgN_eq, brW_true, brW_false, c_skip, c_ret, c_exit, c_seq, c_cond, condW_b, c_block, c_scope, c_region, c_drawn, c_loop, onw_n, onw_r, onw_e, outb_e, outb_o, outb_n, outb_r, putW_some, putW_none, opsW_arr, opsW_nil, opsW_cons, wanted_none, wanted_some, guardB_some, oneW_next, oneW_move, oneW_assign, oneW_pick, oneW_build, oneW_load, oneW_store, oneW_nilCheck, oneW_binOp, oneW_unOp, oneW_makeFunc, oneW_slice, oneW_fieldAddr, oneW_field, oneW_indexAddr, oneW_index, oneW_lookup, oneW_mapUpdate, oneW_range, oneW_entry, oneW_extract, oneW_call, oneW_alloc, oneW_box, oneW_makeMap, oneW_buildSlice, oneW_convert, Hands, handsV, resultsV, oneOrTuple, argsT, arW_val, ofVal_some, plain_val, cond_true, cond_false,
    aOp_move, aOp_assign, aOp_pick, aOp_build, aOp_load, aOp_store, aOp_nilCheck, aOp_binOp, aOp_unOp, aOp_makeFunc, aOp_slice, aOp_fieldAddr, aOp_field, aOp_indexAddr, aOp_index, aOp_lookup, aOp_mapUpdate, aOp_range, aOp_entry, aOp_extract, aOp_call, aOp_alloc, aOp_box, aOp_makeMap, aOp_buildSlice, aInvoke_func,
    nbeq, nble, nblt, cond_dec, decide_true, decide_false, decide_eq_true_eq, Bool.false_eq_true, Bool.and_true, Bool.true_and, Bool.not_true, Bool.not_false, bq_t, bq_f, ev, evs, evPairs, evOpt, closed, flat, tget_put, Nat.reduceEqDiff, Nat.reduceAdd, Nat.reduceMul, Nat.reduceSub, Nat.reduceLT, Nat.reduceLeDiff, Nat.reduceBEq, reduceIte, if_true, if_false, reduceCtorEq, nth, aCall, aEnter, notYield, aNilCheck, aLoad, partV, isAggD, aFieldAddr, aField, aExtract, b_add, b_sub, b_mul, b_xor, b_eql, b_neq, b_lss, b_leq, b_gtr, b_geq, b_shr, Option.isNone, aBuiltin,
    List.length_cons, List.length_nil, true_implies, false_implies, and_true, true_and, implies_true, forall_const, List.append_nil, List.cons_append, List.nil_append, ASt.get_set, ASt.get_new, ASt.next_set, ASt.next_new, Nat.zero_add, Nat.add_zero, eq_self, ctor_self, ti63, t63_desc, t63_size, ti25, t25_desc, ti22, t22_desc, t22_size, ti59, t59_desc, t59_size, ti60, t60_desc, t60_size, ti61, t61_desc, t61_size, ti3, t3_desc, t3_size, ti40, t40_desc, t40_size, ti33, t33_desc, t33_size, ti9, t9_desc, t9_size, wrow_now, wrow_all, eqnil25, fn17, fn26, fn27, fn28, fn29, fn38, fn39, fn12, fn14, fn15, seqW_nil, seqW_cons, pendIf_t, pendIf_f, pendW, AR.val.injEq, exists_eq', and_self, fresh_move, quiet_move, fresh_assign, quiet_assign, fresh_pick, quiet_pick, fresh_build, quiet_build, fresh_load, quiet_load, fresh_store, quiet_store, fresh_nilCheck, quiet_nilCheck, fresh_binOp, quiet_binOp, fresh_unOp, quiet_unOp, fresh_makeFunc, quiet_makeFunc, fresh_slice, quiet_slice, fresh_fieldAddr, quiet_fieldAddr, fresh_field, quiet_field, fresh_indexAddr, quiet_indexAddr, fresh_index, quiet_index, fresh_lookup, quiet_lookup, fresh_mapUpdate, quiet_mapUpdate, fresh_range, quiet_range, fresh_entry, quiet_entry, fresh_extract, quiet_extract, fresh_call, quiet_call, fresh_alloc, quiet_alloc, fresh_box, quiet_box, fresh_makeMap, quiet_makeMap, fresh_buildSlice, quiet_buildSlice, quietC_value, quietC_len, quietC_cap, quietC_append, quietC_delete, fr_buildSlice, stillW_val, stillW_bad, readW_val, freshW_some, hasN, Bool.true_or, Bool.false_or, Bool.or_true, Bool.or_false, reorder, E0_ron, get_empty, get_next, ofVal_none, valEq_int, valEq_str, valEq_bool, valEq_map, valEq_ptr, valEq_slice, valEq_nilSlice, valEq_mapNil, List.length_cons, List.length_nil, wti, wfn, wbin, wbox, wlen, wix, wcv, wbs, wapp, wst, widx, aOp_convert, fc35, fc53, fc29, qc35, qc53, qc29, cv35, cv53, u0, u1, u7, u9, hx1, a0, ro0, g0, wrap8 (show i < 190 by omega), bs29, cv29e, hH, hcv]
          refine con12 hwF htl ?_
          intro A4 hw4 f4
          by_cases hx0 : x > 0
          · have d4 : ((x : Int) > 0) = True := eq_true (by omega)
            have d5 : (decide (now < t) != decide ((t : Int) > (now : Int))) = false := by
              have : decide (now < t) = decide ((t : Int) > (now : Int)) := decide_eq_decide.2 (by omega)
              rw [this]; simp
            simp only [oneW_next, tg_eq, tgN_eq, brW_true, brW_false, c_skip, c_ret, c_exit, c_seq, c_cond, condW_b, c_block, c_scope, c_region, c_drawn, c_loop, onw_n, onw_r, onw_e, outb_e, outb_o, outb_n, outb_r, putW_some, putW_none, opsW_arr, opsW_nil, opsW_cons, wanted_none, wanted_some, guardB_some, oneW_next, oneW_move, oneW_assign, oneW_pick, oneW_build, oneW_load, oneW_store, oneW_nilCheck, oneW_binOp, oneW_unOp, oneW_makeFunc, oneW_slice, oneW_fieldAddr, oneW_field, oneW_indexAddr, oneW_index, oneW_lookup, oneW_mapUpdate, oneW_range, oneW_entry, oneW_extract, oneW_call, oneW_alloc, oneW_box, oneW_makeMap, oneW_buildSlice, oneW_convert, Hands, handsV, resultsV, oneOrTuple, argsT, arW_val, ofVal_some, plain_val, cond_true, cond_false,
    aOp_move, aOp_assign, aOp_pick, aOp_build, aOp_load, aOp_store, aOp_nilCheck, aOp_binOp, aOp_unOp, aOp_makeFunc, aOp_slice, aOp_fieldAddr, aOp_field, aOp_indexAddr, aOp_index, aOp_lookup, aOp_mapUpdate, aOp_range, aOp_entry, aOp_extract, aOp_call, aOp_alloc, aOp_box, aOp_makeMap, aOp_buildSlice, aInvoke_func,
    nbeq, nble, nblt, cond_dec, decide_true, decide_false, decide_eq_true_eq, Bool.false_eq_true, Bool.and_true, Bool.true_and, Bool.not_true, Bool.not_false, bq_t, bq_f, ev, evs, evPairs, evOpt, closed, flat, tget_put, Nat.reduceEqDiff, Nat.reduceAdd, Nat.reduceMul, Nat.reduceSub, Nat.reduceLT, Nat.reduceLeDiff, Nat.reduceBEq, reduceIte, if_true, if_false, reduceCtorEq, nth, aCall, aEnter, notYield, aNilCheck, aLoad, partV, isAggD, aFieldAddr, aField, aExtract, b_add, b_sub, b_mul, b_xor, b_eql, b_neq, b_lss, b_leq, b_gtr, b_geq, b_shr, Option.isNone, aBuiltin,
    List.length_cons, List.length_nil, true_implies, false_implies, and_true, true_and, implies_true, forall_const, List.append_nil, List.cons_append, List.nil_append, ASt.get_set, ASt.get_new, ASt.next_set, ASt.next_new, Nat.zero_add, Nat.add_zero, eq_self, ctor_self, ti63, t63_desc, t63_size, ti25, t25_desc, ti22, t22_desc, t22_size, ti59, t59_desc, t59_size, ti60, t60_desc, t60_size, ti61, t61_desc, t61_size, ti3, t3_desc, t3_size, ti40, t40_desc, t40_size, ti33, t33_desc, t33_size, ti9, t9_desc, t9_size, wrow_now, wrow_all, eqnil25, fn17, fn26, fn27, fn28, fn29, fn38, fn39, fn12, fn14, fn15, seqW_nil, seqW_cons, pendIf_t, pendIf_f, pendW, AR.val.injEq, exists_eq', and_self, fresh_move, quiet_move, fresh_assign, quiet_assign, fresh_pick, quiet_pick, fresh_build, quiet_build, fresh_load, quiet_load, fresh_store, quiet_store, fresh_nilCheck, quiet_nilCheck, fresh_binOp, quiet_binOp, fresh_unOp, quiet_unOp, fresh_makeFunc, quiet_makeFunc, fresh_slice, quiet_slice, fresh_fieldAddr, quiet_fieldAddr, fresh_field, quiet_field, fresh_indexAddr, quiet_indexAddr, fresh_index, quiet_index, fresh_lookup, quiet_lookup, fresh_mapUpdate, quiet_mapUpdate, fresh_range, quiet_range, fresh_entry, quiet_entry, fresh_extract, quiet_extract, fresh_call, quiet_call, fresh_alloc, quiet_alloc, fresh_box, quiet_box, fresh_makeMap, quiet_makeMap, fresh_buildSlice, quiet_buildSlice, quietC_value, quietC_len, quietC_cap, quietC_append, quietC_delete, fr_buildSlice, stillW_val, stillW_bad, readW_val, freshW_some, hasN, Bool.true_or, Bool.false_or, Bool.or_true, Bool.or_false, reorder, E0_ron, get_empty, get_next, ofVal_none, valEq_int, valEq_str, valEq_bool, valEq_map, valEq_ptr, valEq_slice, valEq_nilSlice, valEq_mapNil, List.length_cons, List.length_nil, wti, wfn, wbin, wbox, wlen, wix, wcv, wbs, wapp, wst, widx, aOp_convert, fc35, fc53, fc29, qc35, qc53, qc29, cv35, cv53, u0, u1, u7, u9, hx1, a0, ro0, g0, d4, d5, b_neqB]
            exact ⟨_, _, rfl, by simp only [tget_put, Nat.reduceEqDiff, if_false, if_true, reduceIte, and_self], by simp only [tget_put, Nat.reduceEqDiff, if_false, if_true, reduceIte, u0], by simp only [tget_put, Nat.reduceEqDiff, if_false, if_true, reduceIte, u1], by simp only [tget_put, Nat.reduceEqDiff, if_false, if_true, reduceIte, u2], by simp only [tget_put, Nat.reduceEqDiff, if_false, if_true, reduceIte, u7], by simp only [tget_put, Nat.reduceEqDiff, if_false, if_true, reduceIte, u8], by simp only [tget_put, Nat.reduceEqDiff, if_false, if_true, reduceIte, u9], by simp only [tget_put, Nat.reduceEqDiff, if_false, if_true, reduceIte, and_self], hw4, fF.trans f4⟩
          · have d4 : ((x : Int) > 0) = False := eq_false (by omega)
            have d5 : (decide (now < t) != false) = false := by
              have : decide (now < t) = false := decide_eq_false (by omega)
              rw [this]; rfl
            simp only [oneW_next, tg_eq, tgN_eq, brW_true, brW_false, c_skip, c_ret, c_exit, c_seq, c_cond, condW_b, c_block, c_scope, c_region, c_drawn, c_loop, onw_n, onw_r, onw_e, outb_e, outb_o, outb_n, outb_r, putW_some, putW_none, opsW_arr, opsW_nil, opsW_cons, wanted_none, wanted_some, guardB_some, oneW_next, oneW_move, oneW_assign, oneW_pick, oneW_build, oneW_load, oneW_store, oneW_nilCheck, oneW_binOp, oneW_unOp, oneW_makeFunc, oneW_slice, oneW_fieldAddr, oneW_field, oneW_indexAddr, oneW_index, oneW_lookup, oneW_mapUpdate, oneW_range, oneW_entry, oneW_extract, oneW_call, oneW_alloc, oneW_box, oneW_makeMap, oneW_buildSlice, oneW_convert, Hands, handsV, resultsV, oneOrTuple, argsT, arW_val, ofVal_some, plain_val, cond_true, cond_false,
    aOp_move, aOp_assign, aOp_pick, aOp_build, aOp_load, aOp_store, aOp_nilCheck, aOp_binOp, aOp_unOp, aOp_makeFunc, aOp_slice, aOp_fieldAddr, aOp_field, aOp_indexAddr, aOp_index, aOp_lookup, aOp_mapUpdate, aOp_range, aOp_entry, aOp_extract, aOp_call, aOp_alloc, aOp_box, aOp_makeMap, aOp_buildSlice, aInvoke_func,
    nbeq, nble, nblt, cond_dec, decide_true, decide_false, decide_eq_true_eq, Bool.false_eq_true, Bool.and_true, Bool.true_and, Bool.not_true, Bool.not_false, bq_t, bq_f, ev, evs, evPairs, evOpt, closed, flat, tget_put, Nat.reduceEqDiff, Nat.reduceAdd, Nat.reduceMul, Nat.reduceSub, Nat.reduceLT, Nat.reduceLeDiff, Nat.reduceBEq, reduceIte, if_true, if_false, reduceCtorEq, nth, aCall, aEnter, notYield, aNilCheck, aLoad, partV, isAggD, aFieldAddr, aField, aExtract, b_add, b_sub, b_mul, b_xor, b_eql, b_neq, b_lss, b_leq, b_gtr, b_geq, b_shr, Option.isNone, aBuiltin,
    List.length_cons, List.length_nil, true_implies, false_implies, and_true, true_and, implies_true, forall_const, List.append_nil, List.cons_append, List.nil_append, ASt.get_set, ASt.get_new, ASt.next_set, ASt.next_new, Nat.zero_add, Nat.add_zero, eq_self, ctor_self, ti63, t63_desc, t63_size, ti25, t25_desc, ti22, t22_desc, t22_size, ti59, t59_desc, t59_size, ti60, t60_desc, t60_size, ti61, t61_desc, t61_size, ti3, t3_desc, t3_size, ti40, t40_desc, t40_size, ti33, t33_desc, t33_size, ti9, t9_desc, t9_size, wrow_now, wrow_all, eqnil25, fn17, fn26, fn27, fn28, fn29, fn38, fn39, fn12, fn14, fn15, seqW_nil, seqW_cons, pendIf_t, pendIf_f, pendW, AR.val.injEq, exists_eq', and_self, fresh_move, quiet_move, fresh_assign, quiet_assign, fresh_pick, quiet_pick, fresh_build, quiet_build, fresh_load, quiet_load, fresh_store, quiet_store, fresh_nilCheck, quiet_nilCheck, fresh_binOp, quiet_binOp, fresh_unOp, quiet_unOp, fresh_makeFunc, quiet_makeFunc, fresh_slice, quiet_slice, fresh_fieldAddr, quiet_fieldAddr, fresh_field, quiet_field, fresh_indexAddr, quiet_indexAddr, fresh_index, quiet_index, fresh_lookup, quiet_lookup, fresh_mapUpdate, quiet_mapUpdate, fresh_range, quiet_range, fresh_entry, quiet_entry, fresh_extract, quiet_extract, fresh_call, quiet_call, fresh_alloc, quiet_alloc, fresh_box, quiet_box, fresh_makeMap, quiet_makeMap, fresh_buildSlice, quiet_buildSlice, quietC_value, quietC_len, quietC_cap, quietC_append, quietC_delete, fr_buildSlice, stillW_val, stillW_bad, readW_val, freshW_some, hasN, Bool.true_or, Bool.false_or, Bool.or_true, Bool.or_false, reorder, E0_ron, get_empty, get_next, ofVal_none, valEq_int, valEq_str, valEq_bool, valEq_map, valEq_ptr, valEq_slice, valEq_nilSlice, valEq_mapNil, List.length_cons, List.length_nil, wti, wfn, wbin, wbox, wlen, wix, wcv, wbs, wapp, wst, widx, aOp_convert, fc35, fc53, fc29, qc35, qc53, qc29, cv35, cv53, u0, u1, u7, u9, hx1, a0, ro0, g0, d4, d5, b_neqB]
            exact ⟨_, _, rfl, by simp only [tget_put, Nat.reduceEqDiff, if_false, if_true, reduceIte, and_self], by simp only [tget_put, Nat.reduceEqDiff, if_false, if_true, reduceIte, u0], by simp only [tget_put, Nat.reduceEqDiff, if_false, if_true, reduceIte, u1], by simp only [tget_put, Nat.reduceEqDiff, if_false, if_true, reduceIte, u2], by simp only [tget_put, Nat.reduceEqDiff, if_false, if_true, reduceIte, u7], by simp only [tget_put, Nat.reduceEqDiff, if_false, if_true, reduceIte, u8], by simp only [tget_put, Nat.reduceEqDiff, if_false, if_true, reduceIte, u9], by simp only [tget_put, Nat.reduceEqDiff, if_false, if_true, reduceIte, and_self], hw4, fF.trans f4⟩
        · rintro o ⟨T2, A2, rfl, w60, w0, w1, w2, w7, w8, w9, w10, hw2, f2⟩
          by_cases ht : now < t
          · have d6 : ((t : Int) = (now : Int)) = False := eq_false (by omega)
            rw [if_pos ht] at hw2
            obtain ⟨v', A4, happ, hd4⟩ := hd.app f2 hw2 (hat ▸ hd.mt.put (by omega) (show t ≠ 0 by omega)) (by omega)
            simp only [oneW_next, tg_eq, tgN_eq, brW_true, brW_false, c_skip, c_ret, c_exit, c_seq, c_cond, condW_b, c_block, c_scope, c_region, c_drawn, c_loop, onw_n, onw_r, onw_e, outb_e, outb_o, outb_n, outb_r, putW_some, putW_none, opsW_arr, opsW_nil, opsW_cons, wanted_none, wanted_some, guardB_some, oneW_next, oneW_move, oneW_assign, oneW_pick, oneW_build, oneW_load, oneW_store, oneW_nilCheck, oneW_binOp, oneW_unOp, oneW_makeFunc, oneW_slice, oneW_fieldAddr, oneW_field, oneW_indexAddr, oneW_index, oneW_lookup, oneW_mapUpdate, oneW_range, oneW_entry, oneW_extract, oneW_call, oneW_alloc, oneW_box, oneW_makeMap, oneW_buildSlice, oneW_convert, Hands, handsV, resultsV, oneOrTuple, argsT, arW_val, ofVal_some, plain_val, cond_true, cond_false,
    aOp_move, aOp_assign, aOp_pick, aOp_build, aOp_load, aOp_store, aOp_nilCheck, aOp_binOp, aOp_unOp, aOp_makeFunc, aOp_slice, aOp_fieldAddr, aOp_field, aOp_indexAddr, aOp_index, aOp_lookup, aOp_mapUpdate, aOp_range, aOp_entry, aOp_extract, aOp_call, aOp_alloc, aOp_box, aOp_makeMap, aOp_buildSlice, aInvoke_func,
    nbeq, nble, nblt, cond_dec, decide_true, decide_false, decide_eq_true_eq, Bool.false_eq_true, Bool.and_true, Bool.true_and, Bool.not_true, Bool.not_false, bq_t, bq_f, ev, evs, evPairs, evOpt, closed, flat, tget_put, Nat.reduceEqDiff, Nat.reduceAdd, Nat.reduceMul, Nat.reduceSub, Nat.reduceLT, Nat.reduceLeDiff, Nat.reduceBEq, reduceIte, if_true, if_false, reduceCtorEq, nth, aCall, aEnter, notYield, aNilCheck, aLoad, partV, isAggD, aFieldAddr, aField, aExtract, b_add, b_sub, b_mul, b_xor, b_eql, b_neq, b_lss, b_leq, b_gtr, b_geq, b_shr, Option.isNone, aBuiltin,
    List.length_cons, List.length_nil, true_implies, false_implies, and_true, true_and, implies_true, forall_const, List.append_nil, List.cons_append, List.nil_append, ASt.get_set, ASt.get_new, ASt.next_set, ASt.next_new, Nat.zero_add, Nat.add_zero, eq_self, ctor_self, ti63, t63_desc, t63_size, ti25, t25_desc, ti22, t22_desc, t22_size, ti59, t59_desc, t59_size, ti60, t60_desc, t60_size, ti61, t61_desc, t61_size, ti3, t3_desc, t3_size, ti40, t40_desc, t40_size, ti33, t33_desc, t33_size, ti9, t9_desc, t9_size, wrow_now, wrow_all, eqnil25, fn17, fn26, fn27, fn28, fn29, fn38, fn39, fn12, fn14, fn15, wti, wfn, wbin, wbox, wlen, wix, wcv, wbs, wapp, wst, widx, aOp_convert, fc35, fc53, fc29, qc35, qc53, qc29, cv35, cv53, w60, w0, w7, w8, w9, w10, d6, bs23, happ, wrap_succ (show i < 1000000 by omega)]
            exact ⟨l.length - (i + 1), by omega, i + 1, _, _, _, rfl, by omega, rfl, w1, w2, rfl, by simp [hat], hd4⟩
          · have e6 : t = now := by omega
            have d6 : ((t : Int) = (now : Int)) = True := eq_true (by omega)
            rw [if_neg ht] at hw2
            obtain ⟨v', A4, happ, hd4⟩ := hd.app f2 hw2 hd.mt.skip (by omega)
            have happ : aAppend E0 23 23 v8 (.slice (some ⟨A2.next, 0, none⟩) 1 1) (A2.new (.row [.int .u64 0] 1 false)) = .val v' A4 := happ
            simp only [oneW_next, tg_eq, tgN_eq, brW_true, brW_false, c_skip, c_ret, c_exit, c_seq, c_cond, condW_b, c_block, c_scope, c_region, c_drawn, c_loop, onw_n, onw_r, onw_e, outb_e, outb_o, outb_n, outb_r, putW_some, putW_none, opsW_arr, opsW_nil, opsW_cons, wanted_none, wanted_some, guardB_some, oneW_next, oneW_move, oneW_assign, oneW_pick, oneW_build, oneW_load, oneW_store, oneW_nilCheck, oneW_binOp, oneW_unOp, oneW_makeFunc, oneW_slice, oneW_fieldAddr, oneW_field, oneW_indexAddr, oneW_index, oneW_lookup, oneW_mapUpdate, oneW_range, oneW_entry, oneW_extract, oneW_call, oneW_alloc, oneW_box, oneW_makeMap, oneW_buildSlice, oneW_convert, Hands, handsV, resultsV, oneOrTuple, argsT, arW_val, ofVal_some, plain_val, cond_true, cond_false,
    aOp_move, aOp_assign, aOp_pick, aOp_build, aOp_load, aOp_store, aOp_nilCheck, aOp_binOp, aOp_unOp, aOp_makeFunc, aOp_slice, aOp_fieldAddr, aOp_field, aOp_indexAddr, aOp_index, aOp_lookup, aOp_mapUpdate, aOp_range, aOp_entry, aOp_extract, aOp_call, aOp_alloc, aOp_box, aOp_makeMap, aOp_buildSlice, aInvoke_func,
    nbeq, nble, nblt, cond_dec, decide_true, decide_false, decide_eq_true_eq, Bool.false_eq_true, Bool.and_true, Bool.true_and, Bool.not_true, Bool.not_false, bq_t, bq_f, ev, evs, evPairs, evOpt, closed, flat, tget_put, Nat.reduceEqDiff, Nat.reduceAdd, Nat.reduceMul, Nat.reduceSub, Nat.reduceLT, Nat.reduceLeDiff, Nat.reduceBEq, reduceIte, if_true, if_false, reduceCtorEq, nth, aCall, aEnter, notYield, aNilCheck, aLoad, partV, isAggD, aFieldAddr, aField, aExtract, b_add, b_sub, b_mul, b_xor, b_eql, b_neq, b_lss, b_leq, b_gtr, b_geq, b_shr, Option.isNone, aBuiltin,
    List.length_cons, List.length_nil, true_implies, false_implies, and_true, true_and, implies_true, forall_const, List.append_nil, List.cons_append, List.nil_append, ASt.get_set, ASt.get_new, ASt.next_set, ASt.next_new, Nat.zero_add, Nat.add_zero, eq_self, ctor_self, ti63, t63_desc, t63_size, ti25, t25_desc, ti22, t22_desc, t22_size, ti59, t59_desc, t59_size, ti60, t60_desc, t60_size, ti61, t61_desc, t61_size, ti3, t3_desc, t3_size, ti40, t40_desc, t40_size, ti33, t33_desc, t33_size, ti9, t9_desc, t9_size, wrow_now, wrow_all, eqnil25, fn17, fn26, fn27, fn28, fn29, fn38, fn39, fn12, fn14, fn15, wti, wfn, wbin, wbox, wlen, wix, wcv, wbs, wapp, wst, widx, aOp_convert, fc35, fc53, fc29, qc35, qc53, qc29, cv35, cv53, w60, w0, w7, w8, w9, w10, d6, bs23, happ, wrap_succ (show i < 1000000 by omega)]
            exact ⟨l.length - (i + 1), by omega, i + 1, _, _, _, rfl, by omega, rfl, w1, w2, rfl, by simp [hat], hd4⟩
      · have d3 : ((i : Int) < (l.length : Int)) = False := eq_false (by omega)
        simp only [oneW_next, tg_eq, tgN_eq, brW_true, brW_false, c_skip, c_ret, c_exit, c_seq, c_cond, condW_b, c_block, c_scope, c_region, c_drawn, c_loop, onw_n, onw_r, onw_e, outb_e, outb_o, outb_n, outb_r, putW_some, putW_none, opsW_arr, opsW_nil, opsW_cons, wanted_none, wanted_some, guardB_some, oneW_next, oneW_move, oneW_assign, oneW_pick, oneW_build, oneW_load, oneW_store, oneW_nilCheck, oneW_binOp, oneW_unOp, oneW_makeFunc, oneW_slice, oneW_fieldAddr, oneW_field, oneW_indexAddr, oneW_index, oneW_lookup, oneW_mapUpdate, oneW_range, oneW_entry, oneW_extract, oneW_call, oneW_alloc, oneW_box, oneW_makeMap, oneW_buildSlice, oneW_convert, Hands, handsV, resultsV, oneOrTuple, argsT, arW_val, ofVal_some, plain_val, cond_true, cond_false,
    aOp_move, aOp_assign, aOp_pick, aOp_build, aOp_load, aOp_store, aOp_nilCheck, aOp_binOp, aOp_unOp, aOp_makeFunc, aOp_slice, aOp_fieldAddr, aOp_field, aOp_indexAddr, aOp_index, aOp_lookup, aOp_mapUpdate, aOp_range, aOp_entry, aOp_extract, aOp_call, aOp_alloc, aOp_box, aOp_makeMap, aOp_buildSlice, aInvoke_func,
    nbeq, nble, nblt, cond_dec, decide_true, decide_false, decide_eq_true_eq, Bool.false_eq_true, Bool.and_true, Bool.true_and, Bool.not_true, Bool.not_false, bq_t, bq_f, ev, evs, evPairs, evOpt, closed, flat, tget_put, Nat.reduceEqDiff, Nat.reduceAdd, Nat.reduceMul, Nat.reduceSub, Nat.reduceLT, Nat.reduceLeDiff, Nat.reduceBEq, reduceIte, if_true, if_false, reduceCtorEq, nth, aCall, aEnter, notYield, aNilCheck, aLoad, partV, isAggD, aFieldAddr, aField, aExtract, b_add, b_sub, b_mul, b_xor, b_eql, b_neq, b_lss, b_leq, b_gtr, b_geq, b_shr, Option.isNone, aBuiltin,
    List.length_cons, List.length_nil, true_implies, false_implies, and_true, true_and, implies_true, forall_const, List.append_nil, List.cons_append, List.nil_append, ASt.get_set, ASt.get_new, ASt.next_set, ASt.next_new, Nat.zero_add, Nat.add_zero, eq_self, ctor_self, ti63, t63_desc, t63_size, ti25, t25_desc, ti22, t22_desc, t22_size, ti59, t59_desc, t59_size, ti60, t60_desc, t60_size, ti61, t61_desc, t61_size, ti3, t3_desc, t3_size, ti40, t40_desc, t40_size, ti33, t33_desc, t33_size, ti9, t9_desc, t9_size, wrow_now, wrow_all, eqnil25, fn17, fn26, fn27, fn28, fn29, fn38, fn39, fn12, fn14, fn15, wti, wfn, wbin, wbox, wlen, wix, wcv, wbs, wapp, wst, widx, aOp_convert, fc35, fc53, fc29, qc35, qc53, qc29, cv35, cv53, u9, u1, hll, d3]
        exact ⟨_, _, M, v8, ats, rfl, by simp only [tget_put, Nat.reduceEqDiff, if_false, if_true, reduceIte, u0], by simp only [tget_put, Nat.reduceEqDiff, if_false, if_true, reduceIte, u2], by simp only [tget_put, Nat.reduceEqDiff, if_false, if_true, reduceIte, u7], by simp only [tget_put, Nat.reduceEqDiff, if_false, if_true, reduceIte, u8], by omega, hd⟩
    all_goals simp only [tget_put, Nat.reduceEqDiff, if_false, if_true, reduceIte]
    all_goals rfl
  · rintro o ⟨T1, A1, M, v8, ats, rfl, u0, u2, u7, u8, hat, hd⟩
    simp only [oneW_next, tg_eq, tgN_eq, brW_true, brW_false, c_skip, c_ret, c_exit, c_seq, c_cond, condW_b, c_block, c_scope, c_region, c_drawn, c_loop, onw_n, onw_r, onw_e, outb_e, outb_o, outb_n, outb_r, putW_some, putW_none, opsW_arr, opsW_nil, opsW_cons, wanted_none, wanted_some, guardB_some, oneW_next, oneW_move, oneW_assign, oneW_pick, oneW_build, oneW_load, oneW_store, oneW_nilCheck, oneW_binOp, oneW_unOp, oneW_makeFunc, oneW_slice, oneW_fieldAddr, oneW_field, oneW_indexAddr, oneW_index, oneW_lookup, oneW_mapUpdate, oneW_range, oneW_entry, oneW_extract, oneW_call, oneW_alloc, oneW_box, oneW_makeMap, oneW_buildSlice, oneW_convert, Hands, handsV, resultsV, oneOrTuple, argsT, arW_val, ofVal_some, plain_val, cond_true, cond_false,
    aOp_move, aOp_assign, aOp_pick, aOp_build, aOp_load, aOp_store, aOp_nilCheck, aOp_binOp, aOp_unOp, aOp_makeFunc, aOp_slice, aOp_fieldAddr, aOp_field, aOp_indexAddr, aOp_index, aOp_lookup, aOp_mapUpdate, aOp_range, aOp_entry, aOp_extract, aOp_call, aOp_alloc, aOp_box, aOp_makeMap, aOp_buildSlice, aInvoke_func,
    nbeq, nble, nblt, cond_dec, decide_true, decide_false, decide_eq_true_eq, Bool.false_eq_true, Bool.and_true, Bool.true_and, Bool.not_true, Bool.not_false, bq_t, bq_f, ev, evs, evPairs, evOpt, closed, flat, tget_put, Nat.reduceEqDiff, Nat.reduceAdd, Nat.reduceMul, Nat.reduceSub, Nat.reduceLT, Nat.reduceLeDiff, Nat.reduceBEq, reduceIte, if_true, if_false, reduceCtorEq, nth, aCall, aEnter, notYield, aNilCheck, aLoad, partV, isAggD, aFieldAddr, aField, aExtract, b_add, b_sub, b_mul, b_xor, b_eql, b_neq, b_lss, b_leq, b_gtr, b_geq, b_shr, Option.isNone, aBuiltin,
    List.length_cons, List.length_nil, true_implies, false_implies, and_true, true_and, implies_true, forall_const, List.append_nil, List.cons_append, List.nil_append, ASt.get_set, ASt.get_new, ASt.next_set, ASt.next_new, Nat.zero_add, Nat.add_zero, eq_self, ctor_self, ti63, t63_desc, t63_size, ti25, t25_desc, ti22, t22_desc, t22_size, ti59, t59_desc, t59_size, ti60, t60_desc, t60_size, ti61, t61_desc, t61_size, ti3, t3_desc, t3_size, ti40, t40_desc, t40_size, ti33, t33_desc, t33_size, ti9, t9_desc, t9_size, wrow_now, wrow_all, eqnil25, fn17, fn26, fn27, fn28, fn29, fn38, fn39, fn12, fn14, fn15, wti, wfn, wbin, wbox, wlen, wix, wcv, wbs, wapp, wst, widx, aOp_convert, fc35, fc53, fc29, qc35, qc53, qc29, cv35, cv53]
    refine CodeW.mono (Q := fun o => ∃ T' A', o = .fr ⟨.exit 2, T', A'⟩) ?_ ?_
    · refine CodeW.loopR (k := leaps.length) (fun k T A' => ∃ i nw M ats, k = leaps.length - i ∧ i ≤ leaps.length ∧ tget T 11 = .int .i64 (i : Int) ∧ tget T 0 = .int .u64 ((nw : Nat) : Int) ∧ nw < 18446744073709551616 ∧ tget T 2 = pv ∧ tget T 7 = .pointer (some ⟨W, 0, none⟩) ∧ tget T 8 = v8 ∧ ats.length ≤ 40 ∧ Due B.next A' W all ms nw M v8 ats) ?_ ⟨0, now, M, ats, rfl, by omega, ?_, ?_, hnow, ?_, ?_, ?_, hat, hd⟩
      · clear hd hat u0 u2 u7 u8 M ats A1 T1
        rintro k T A1 ⟨i, now, M, ats, rfl, hi, u11, u0, hnow, u2, u7, u8, hat, hd⟩
        refine codeW_ok (withRo_ok E0_ok) hro ?_
        by_cases e1 : i < leaps.length
        · have d3 : ((i : Int) < (leaps.length : Int)) = True := eq_true (by omega)
          have hx : leaps[i]? = some leaps[i] := List.getElem?_eq_getElem _
          have hxm : leaps[i] ∈ leaps := List.getElem_mem _
          generalize leaps[i] = x at hx hxm
          have g0 := ucells_nth hx
          have hx1 := hpx i e1
          have a1 := hd.n1
          simp only [oneW_next, tg_eq, tgN_eq, brW_true, brW_false, c_skip, c_ret, c_exit, c_seq, c_cond, condW_b, c_block, c_scope, c_region, c_drawn, c_loop, onw_n, onw_r, onw_e, outb_e, outb_o, outb_n, outb_r, putW_some, putW_none, opsW_arr, opsW_nil, opsW_cons, wanted_none, wanted_some, guardB_some, oneW_next, oneW_move, oneW_assign, oneW_pick, oneW_build, oneW_load, oneW_store, oneW_nilCheck, oneW_binOp, oneW_unOp, oneW_makeFunc, oneW_slice, oneW_fieldAddr, oneW_field, oneW_indexAddr, oneW_index, oneW_lookup, oneW_mapUpdate, oneW_range, oneW_entry, oneW_extract, oneW_call, oneW_alloc, oneW_box, oneW_makeMap, oneW_buildSlice, oneW_convert, Hands, handsV, resultsV, oneOrTuple, argsT, arW_val, ofVal_some, plain_val, cond_true, cond_false,
    aOp_move, aOp_assign, aOp_pick, aOp_build, aOp_load, aOp_store, aOp_nilCheck, aOp_binOp, aOp_unOp, aOp_makeFunc, aOp_slice, aOp_fieldAddr, aOp_field, aOp_indexAddr, aOp_index, aOp_lookup, aOp_mapUpdate, aOp_range, aOp_entry, aOp_extract, aOp_call, aOp_alloc, aOp_box, aOp_makeMap, aOp_buildSlice, aInvoke_func,
    nbeq, nble, nblt, cond_dec, decide_true, decide_false, decide_eq_true_eq, Bool.false_eq_true, Bool.and_true, Bool.true_and, Bool.not_true, Bool.not_false, bq_t, bq_f, ev, evs, evPairs, evOpt, closed, flat, tget_put, Nat.reduceEqDiff, Nat.reduceAdd, Nat.reduceMul, Nat.reduceSub, Nat.reduceLT, Nat.reduceLeDiff, Nat.reduceBEq, reduceIte, if_true, if_false, reduceCtorEq, nth, aCall, aEnter, notYield, aNilCheck, aLoad, partV, isAggD, aFieldAddr, aField, aExtract, b_add, b_sub, b_mul, b_xor, b_eql, b_neq, b_lss, b_leq, b_gtr, b_geq, b_shr, Option.isNone, aBuiltin,
    List.length_cons, List.length_nil, true_implies, false_implies, and_true, true_and, implies_true, forall_const, List.append_nil, List.cons_append, List.nil_append, ASt.get_set, ASt.get_new, ASt.next_set, ASt.next_new, Nat.zero_add, Nat.add_zero, eq_self, ctor_self, ti63, t63_desc, t63_size, ti25, t25_desc, ti22, t22_desc, t22_size, ti59, t59_desc, t59_size, ti60, t60_desc, t60_size, ti61, t61_desc, t61_size, ti3, t3_desc, t3_size, ti40, t40_desc, t40_size, ti33, t33_desc, t33_size, ti9, t9_desc, t9_size, wrow_now, wrow_all, eqnil25, fn17, fn26, fn27, fn28, fn29, fn38, fn39, fn12, fn14, fn15, wti, wfn, wbin, wbox, wlen, wix, wcv, wbs, wapp, wst, widx, aOp_convert, fc35, fc53, fc29, qc35, qc53, qc29, cv35, cv53, u11, u0, u2, u7, hpl, d3, hx1, a1, ro1, g0, fn11]
          refine CallT.mono (later_spec hnow (hp x hxm)) ?_
          rintro _ A3 ⟨rfl, rfl⟩
          have hwl := lat_lt (b := x) hnow
          have hwn : now ≤ lat now x := by
            unfold lat
            split <;> omega
          generalize lat now x = nw at hwl hwn
          simp only [oneW_next, tg_eq, tgN_eq, brW_true, brW_false, c_skip, c_ret, c_exit, c_seq, c_cond, condW_b, c_block, c_scope, c_region, c_drawn, c_loop, onw_n, onw_r, onw_e, outb_e, outb_o, outb_n, outb_r, putW_some, putW_none, opsW_arr, opsW_nil, opsW_cons, wanted_none, wanted_some, guardB_some, oneW_next, oneW_move, oneW_assign, oneW_pick, oneW_build, oneW_load, oneW_store, oneW_nilCheck, oneW_binOp, oneW_unOp, oneW_makeFunc, oneW_slice, oneW_fieldAddr, oneW_field, oneW_indexAddr, oneW_index, oneW_lookup, oneW_mapUpdate, oneW_range, oneW_entry, oneW_extract, oneW_call, oneW_alloc, oneW_box, oneW_makeMap, oneW_buildSlice, oneW_convert, Hands, handsV, resultsV, oneOrTuple, argsT, arW_val, ofVal_some, plain_val, cond_true, cond_false,
    aOp_move, aOp_assign, aOp_pick, aOp_build, aOp_load, aOp_store, aOp_nilCheck, aOp_binOp, aOp_unOp, aOp_makeFunc, aOp_slice, aOp_fieldAddr, aOp_field, aOp_indexAddr, aOp_index, aOp_lookup, aOp_mapUpdate, aOp_range, aOp_entry, aOp_extract, aOp_call, aOp_alloc, aOp_box, aOp_makeMap, aOp_buildSlice, aInvoke_func,
    nbeq, nble, nblt, cond_dec, decide_true, decide_false, decide_eq_true_eq, Bool.false_eq_true, Bool.and_true, Bool.true_and, Bool.not_true, Bool.not_false, bq_t, bq_f, ev, evs, evPairs, evOpt, closed, flat, tget_put, Nat.reduceEqDiff, Nat.reduceAdd, Nat.reduceMul, Nat.reduceSub, Nat.reduceLT, Nat.reduceLeDiff, Nat.reduceBEq, reduceIte, if_true, if_false, reduceCtorEq, nth, aCall, aEnter, notYield, aNilCheck, aLoad, partV, isAggD, aFieldAddr, aField, aExtract, b_add, b_sub, b_mul, b_xor, b_eql, b_neq, b_lss, b_leq, b_gtr, b_geq, b_shr, Option.isNone, aBuiltin,
    List.length_cons, List.length_nil, true_implies, false_implies, and_true, true_and, implies_true, forall_const, List.append_nil, List.cons_append, List.nil_append, ASt.get_set, ASt.get_new, ASt.next_set, ASt.next_new, Nat.zero_add, Nat.add_zero, eq_self, ctor_self, ti63, t63_desc, t63_size, ti25, t25_desc, ti22, t22_desc, t22_size, ti59, t59_desc, t59_size, ti60, t60_desc, t60_size, ti61, t61_desc, t61_size, ti3, t3_desc, t3_size, ti40, t40_desc, t40_size, ti33, t33_desc, t33_size, ti9, t9_desc, t9_size, wrow_now, wrow_all, eqnil25, fn17, fn26, fn27, fn28, fn29, fn38, fn39, fn12, fn14, fn15, wti, wfn, wbin, wbox, wlen, wix, wcv, wbs, wapp, wst, widx, aOp_convert, fc35, fc53, fc29, qc35, qc53, qc29, cv35, cv53, u11, u0, u2, u7, fn13]
          refine CallT.mono (advance_spec hd.wh (hd.mt.few (by omega)) hwl) ?_
          intro vd A4 hadv
          rw [if_neg (by omega)] at hadv
          obtain ⟨ts, hts, hsd, hw4, f4⟩ := hadv
          refine putW_abs (n := 219) (d := 82) (fun T => tget T 0 = .int .u64 (nw : Int) ∧ tget T 2 = pv ∧ tget T 7 = .pointer (some ⟨W, 0, none⟩) ∧ tget T 8 = v8 ∧ tget T 11 = .int .i64 (i : Int) ∧ tget T 82 = vd) (by decide) (by simp only [tget_put, Nat.reduceEqDiff, if_false, if_true, reduceIte, u0, u2, u7, u8, u11, and_self]) ?_
          rintro T2 ⟨w0, w2, w7, w8, w11, w82⟩
          simp only [oneW_next, tg_eq, tgN_eq, brW_true, brW_false, c_skip, c_ret, c_exit, c_seq, c_cond, condW_b, c_block, c_scope, c_region, c_drawn, c_loop, onw_n, onw_r, onw_e, outb_e, outb_o, outb_n, outb_r, putW_some, putW_none, opsW_arr, opsW_nil, opsW_cons, wanted_none, wanted_some, guardB_some, oneW_next, oneW_move, oneW_assign, oneW_pick, oneW_build, oneW_load, oneW_store, oneW_nilCheck, oneW_binOp, oneW_unOp, oneW_makeFunc, oneW_slice, oneW_fieldAddr, oneW_field, oneW_indexAddr, oneW_index, oneW_lookup, oneW_mapUpdate, oneW_range, oneW_entry, oneW_extract, oneW_call, oneW_alloc, oneW_box, oneW_makeMap, oneW_buildSlice, oneW_convert, Hands, handsV, resultsV, oneOrTuple, argsT, arW_val, ofVal_some, plain_val, cond_true, cond_false,
    aOp_move, aOp_assign, aOp_pick, aOp_build, aOp_load, aOp_store, aOp_nilCheck, aOp_binOp, aOp_unOp, aOp_makeFunc, aOp_slice, aOp_fieldAddr, aOp_field, aOp_indexAddr, aOp_index, aOp_lookup, aOp_mapUpdate, aOp_range, aOp_entry, aOp_extract, aOp_call, aOp_alloc, aOp_box, aOp_makeMap, aOp_buildSlice, aInvoke_func,
    nbeq, nble, nblt, cond_dec, decide_true, decide_false, decide_eq_true_eq, Bool.false_eq_true, Bool.and_true, Bool.true_and, Bool.not_true, Bool.not_false, bq_t, bq_f, ev, evs, evPairs, evOpt, closed, flat, tget_put, Nat.reduceEqDiff, Nat.reduceAdd, Nat.reduceMul, Nat.reduceSub, Nat.reduceLT, Nat.reduceLeDiff, Nat.reduceBEq, reduceIte, if_true, if_false, reduceCtorEq, nth, aCall, aEnter, notYield, aNilCheck, aLoad, partV, isAggD, aFieldAddr, aField, aExtract, b_add, b_sub, b_mul, b_xor, b_eql, b_neq, b_lss, b_leq, b_gtr, b_geq, b_shr, Option.isNone, aBuiltin,
    List.length_cons, List.length_nil, true_implies, false_implies, and_true, true_and, implies_true, forall_const, List.append_nil, List.cons_append, List.nil_append, ASt.get_set, ASt.get_new, ASt.next_set, ASt.next_new, Nat.zero_add, Nat.add_zero, eq_self, ctor_self, ti63, t63_desc, t63_size, ti25, t25_desc, ti22, t22_desc, t22_size, ti59, t59_desc, t59_size, ti60, t60_desc, t60_size, ti61, t61_desc, t61_size, ti3, t3_desc, t3_size, ti40, t40_desc, t40_size, ti33, t33_desc, t33_size, ti9, t9_desc, t9_size, wrow_now, wrow_all, eqnil25, fn17, fn26, fn27, fn28, fn29, fn38, fn39, fn12, fn14, fn15, wti, wfn, wbin, wbox, wlen, wix, wcv, wbs, wapp, wst, widx, aOp_convert, fc35, fc53, fc29, qc35, qc53, qc29, cv35, cv53, w82]
          have hlv : ∀ A, aLen E0 30 vd A = some (.int .i64 (ts.length : Int)) := fun _ => hsd.len
          have hn4 : A3.next ≤ A4.next := f4.next
          have hlo : B.next ≤ A3.next := hd.le
          have h8 : ∀ b n c, v8 = .slice (some ⟨b, 0, none⟩) n c → b < A3.next := by
            intro b n c e
            rcases hd.sl with ⟨_, e2⟩ | ⟨b2, e2, _, _, h2⟩
            · rw [e] at e2; cases e2
            · rw [e] at e2; cases e2; exact h2
          have htl : ts.length ≤ 190 := by
            obtain ⟨r, k1, k2⟩ := hd.mt.few (show ats.length ≤ 190 by omega)
            have hc := (hd.mt.adv nw).cnt (by unfold clr; rw [List.length_map]; omega)
            have hr : ∀ x ∈ ts.map (·.1), x ∈ (List.range ats.length).map nm := by
              intro x hx
              obtain ⟨y, hy, rfl⟩ := List.mem_map.1 hx
              obtain ⟨h1, _⟩ := Option.filter_eq_some_iff.1 ((hts.mem y.1 y.2).1 hy)
              obtain ⟨j, g1, _, g3⟩ := (hd.mt _ _).1 h1
              exact List.mem_map.2 ⟨j, List.mem_range.2 (lt_of_get g1), g3.symm⟩
            have := nodup_leG hts.names hr
            simp at this
            omega
          refine CodeW.mono (Q := fun o => ∃ T' A' ats', o = .fr ⟨.exit 4, T', A'⟩ ∧ tget T' 0 = .int .u64 (nw : Int) ∧ tget T' 2 = pv ∧ tget T' 7 = .pointer (some ⟨W, 0, none⟩) ∧ tget T' 8 = v8 ∧ tget T' 11 = .int .i64 (i : Int) ∧ Told ats (ts.map (·.1)) ats' ∧ SliceU A' B.next v8 ats' ∧ A4.next ≤ A'.next ∧ ∀ b, (b < B.next ∨ (A3.next ≤ b ∧ b < A4.next)) → A'.get b = A4.get b) ?_ ?_
          · refine CodeW.loopR (k := ts.length) (fun k T A' => ∃ j ats', k = ts.length - j ∧ j ≤ ts.length ∧ tget T 13 = .int .i64 (j : Int) ∧ tget T 0 = .int .u64 (nw : Int) ∧ tget T 2 = pv ∧ tget T 7 = .pointer (some ⟨W, 0, none⟩) ∧ tget T 8 = v8 ∧ tget T 11 = .int .i64 (i : Int) ∧ tget T 12 = vd ∧ Told ats ((ts.take j).map (·.1)) ats' ∧ SliceU A' B.next v8 ats' ∧ A4.next ≤ A'.next ∧ ∀ b, (b < B.next ∨ (A3.next ≤ b ∧ b < A4.next)) → A'.get b = A4.get b) ?_ ⟨0, ats, rfl, by omega, ?_, ?_, ?_, ?_, ?_, ?_, ?_, .nil _, hd.sl.fr f4 hd.own, Nat.le_refl _, fun _ _ => rfl⟩
            · rintro k T A5 ⟨j, ats', rfl, hj, y13, y0, y2, y7, y8, y11, y12, htold, hsl, hnx, hget⟩
              refine codeW_ok (withRo_ok E0_ok) hro ?_
              by_cases e2 : j < ts.length
              · have d4 : ((j : Int) < (ts.length : Int)) = True := eq_true (by omega)
                have hxj : ts[j]? = some ts[j] := List.getElem?_eq_getElem _
                have hprev : j > 0 → tlt (ts[j - 1]'(by omega)) ts[j] := fun h0 => List.pairwise_iff_getElem.1 hts.ord (j - 1) j (by omega) (by omega) (by omega)
                generalize ts[j] = t at hxj hprev
                have htm : t ∈ ts := List.mem_of_getElem? hxj
                obtain ⟨hM, hle⟩ := Option.filter_eq_some_iff.1 ((hts.mem t.1 t.2).1 htm)
                simp only [decide_eq_true_eq] at hle
                obtain ⟨n, hn1, hn2, hn3⟩ := (hd.mt _ _).1 hM
                have hnl := lt_of_get hn1
                have hnin : nm n ∉ (ts.take j).map (·.1) := by
                  rw [← hn3]
                  intro hin
                  obtain ⟨y, hy, e⟩ := List.mem_map.1 hin
                  obtain ⟨q, hq, rfl⟩ := List.mem_take_iff_getElem.1 hy
                  have hnd := List.pairwise_iff_getElem.1 (show List.Pairwise (· ≠ ·) (ts.map (·.1)) from hts.names) q j (by simp; omega) (by simp; omega) (by omega)
                  simp only [List.getElem_map] at hnd
                  have : ts[j] = t := by rw [List.getElem?_eq_getElem e2] at hxj; simpa using hxj
                  rw [this] at hnd
                  exact hnd e
                have hg8 := (htold.2 n t.2 hn1).2 hnin
                have hnl' := lt_of_get hg8
                have g8 := ucells_nth hg8
                obtain ⟨b8, hv8, hix8, hb8, hlo8, hhi8⟩ := hsl.ix hnl'
                have hbA := h8 b8 _ _ hv8
                have hl8 : ∀ A, aLen E0 23 v8 A = some (.int .i64 (ats'.length : Int)) := fun _ => hsl.len
                have hsd5 : SliceAt A5 A3.next vd ts := by
                  rcases hsd with h | ⟨b, cap, rest, tl, e, hb, k1, k2⟩
                  · exact .inl h
                  · exact .inr ⟨b, cap, rest, tl, e, by rw [hget b (.inr ⟨k1, k2⟩)]; exact hb, k1, by omega⟩
                obtain ⟨bd, rest, tl, hixd', hbd, hlod⟩ := hsd5.ix2 (by omega)
                have hixd := hixd' j e2
                have rbd : (withRo E0 s).ro bd = none := ro_none (by omega)
                have rb8 : (withRo E0 s).ro b8 = none := ro_none (by omega)
                obtain ⟨gn, ga⟩ := tcells_nth (rest := rest) hxj
                rw [hn3] at gn
                have hi9 := ix9 (i := n) (by omega)
                have hw1 : IntKind.i64.wrap (IntKind.i64.wrap ((65 + n : Nat) : Int) - 65) = (n : Int) := by
                  have : IntKind.i64.wrap ((65 + n : Nat) : Int) = ((65 + n : Nat) : Int) := by rw [IntKind.wrap_i64]; omega
                  rw [this, IntKind.wrap_i64]; omega
                simp only [oneW_next, tg_eq, tgN_eq, brW_true, brW_false, c_skip, c_ret, c_exit, c_seq, c_cond, condW_b, c_block, c_scope, c_region, c_drawn, c_loop, onw_n, onw_r, onw_e, outb_e, outb_o, outb_n, outb_r, putW_some, putW_none, opsW_arr, opsW_nil, opsW_cons, wanted_none, wanted_some, guardB_some, oneW_next, oneW_move, oneW_assign, oneW_pick, oneW_build, oneW_load, oneW_store, oneW_nilCheck, oneW_binOp, oneW_unOp, oneW_makeFunc, oneW_slice, oneW_fieldAddr, oneW_field, oneW_indexAddr, oneW_index, oneW_lookup, oneW_mapUpdate, oneW_range, oneW_entry, oneW_extract, oneW_call, oneW_alloc, oneW_box, oneW_makeMap, oneW_buildSlice, oneW_convert, Hands, handsV, resultsV, oneOrTuple, argsT, arW_val, ofVal_some, plain_val, cond_true, cond_false,
    aOp_move, aOp_assign, aOp_pick, aOp_build, aOp_load, aOp_store, aOp_nilCheck, aOp_binOp, aOp_unOp, aOp_makeFunc, aOp_slice, aOp_fieldAddr, aOp_field, aOp_indexAddr, aOp_index, aOp_lookup, aOp_mapUpdate, aOp_range, aOp_entry, aOp_extract, aOp_call, aOp_alloc, aOp_box, aOp_makeMap, aOp_buildSlice, aInvoke_func,
    nbeq, nble, nblt, cond_dec, decide_true, decide_false, decide_eq_true_eq, Bool.false_eq_true, Bool.and_true, Bool.true_and, Bool.not_true, Bool.not_false, bq_t, bq_f, ev, evs, evPairs, evOpt, closed, flat, tget_put, Nat.reduceEqDiff, Nat.reduceAdd, Nat.reduceMul, Nat.reduceSub, Nat.reduceLT, Nat.reduceLeDiff, Nat.reduceBEq, reduceIte, if_true, if_false, reduceCtorEq, nth, aCall, aEnter, notYield, aNilCheck, aLoad, partV, isAggD, aFieldAddr, aField, aExtract, b_add, b_sub, b_mul, b_xor, b_eql, b_neq, b_lss, b_leq, b_gtr, b_geq, b_shr, Option.isNone, aBuiltin,
    List.length_cons, List.length_nil, true_implies, false_implies, and_true, true_and, implies_true, forall_const, List.append_nil, List.cons_append, List.nil_append, ASt.get_set, ASt.get_new, ASt.next_set, ASt.next_new, Nat.zero_add, Nat.add_zero, eq_self, ctor_self, ti63, t63_desc, t63_size, ti25, t25_desc, ti22, t22_desc, t22_size, ti59, t59_desc, t59_size, ti60, t60_desc, t60_size, ti61, t61_desc, t61_size, ti3, t3_desc, t3_size, ti40, t40_desc, t40_size, ti33, t33_desc, t33_size, ti9, t9_desc, t9_size, wrow_now, wrow_all, eqnil25, fn17, fn26, fn27, fn28, fn29, fn38, fn39, fn12, fn14, fn15, wti, wfn, wbin, wbox, wlen, wix, wcv, wbs, wapp, wst, widx, aOp_convert, fc35, fc53, fc29, qc35, qc53, qc29, cv35, cv53, y13, y12, hlv, d4, hixd, hbd, gn, hi9, hw1]
                have ve8 : valEq v8 v8 = true := by rw [hv8]; exact valEq_slice
                have ved : valEq vd vd = true := by
                  rcases hsd with ⟨_, e⟩ | ⟨b, cap, _, _, e, _⟩ <;> rw [e]
                  · exact valEq_nilSlice
                  · exact valEq_slice
                have f1 : ((n : Int) < 0) = False := eq_false (by omega)
                have f2 : ((n : Int) ≥ (ats'.length : Int)) = False := eq_false (by omega)
                have f3 : (((t.2 : Nat) : Int) = 0) = False := eq_false (by omega)
                have f5 : (((t.2 : Nat) : Int) ≠ ((t.2 : Nat) : Int)) = False := eq_false (by simp)
                have f6 : (((t.2 : Nat) : Int) > (nw : Int)) = False := eq_false (by omega)
                refine CodeW.mono (Q := fun o => ∃ T' A', o = .fr ⟨.normal, T', A'⟩ ∧ tget T' 178 = .bool false ∧ tget T' 0 = .int .u64 (nw : Int) ∧ tget T' 2 = pv ∧ tget T' 7 = .pointer (some ⟨W, 0, none⟩) ∧ tget T' 8 = v8 ∧ tget T' 11 = .int .i64 (i : Int) ∧ tget T' 12 = vd ∧ tget T' 13 = .int .i64 (j : Int) ∧ tget T' 14 = .int .i64 (n : Int) ∧ A5.next ≤ A'.next ∧ A'.heap = A5.heap) ?_ ?_
                · refine CodeW.quiet (withRo_ok E0_ok) hro mixed (by kernel_rfl) (by kernel_rfl) ?_
                  by_cases hj0 : j > 0
                  · have f7 : ((j : Int) > 0) = True := eq_true (by omega)
                    have hxp : ts[j - 1]? = some (ts[j - 1]'(by omega)) := List.getElem?_eq_getElem _
                    have hlt := hprev hj0
                    generalize ts[j - 1] = u at hxp hlt
                    obtain ⟨gn', ga'⟩ := tcells_nth (rest := rest) hxp
                    have hixp := hixd' (j - 1) (by omega)
                    have hwj : IntKind.i64.wrap ((j : Int) - 1) = ((j - 1 : Nat) : Int) := by rw [IntKind.wrap_i64]; omega
                    have f8 : (((t.2 : Nat) : Int) < ((u.2 : Nat) : Int)) = False := eq_false (by rcases hlt with h | h <;> omega)
                    simp only [List.append_eq, List.cons_append, List.nil_append]
                    by_cases he : t.2 = u.2
                    · have f9 : (((t.2 : Nat) : Int) = ((u.2 : Nat) : Int)) = True := eq_true (by omega)
                      have hbl : blt u.1 (nm n) = true := by
                        rcases hlt with h | h
                        · omega
                        · rw [← hn3]; exact h.2
                      simp only [oneW_next, tg_eq, tgN_eq, brW_true, brW_false, c_skip, c_ret, c_exit, c_seq, c_cond, condW_b, c_block, c_scope, c_region, c_drawn, c_loop, onw_n, onw_r, onw_e, outb_e, outb_o, outb_n, outb_r, putW_some, putW_none, opsW_arr, opsW_nil, opsW_cons, wanted_none, wanted_some, guardB_some, oneW_next, oneW_move, oneW_assign, oneW_pick, oneW_build, oneW_load, oneW_store, oneW_nilCheck, oneW_binOp, oneW_unOp, oneW_makeFunc, oneW_slice, oneW_fieldAddr, oneW_field, oneW_indexAddr, oneW_index, oneW_lookup, oneW_mapUpdate, oneW_range, oneW_entry, oneW_extract, oneW_call, oneW_alloc, oneW_box, oneW_makeMap, oneW_buildSlice, oneW_convert, Hands, handsV, resultsV, oneOrTuple, argsT, arW_val, ofVal_some, plain_val, cond_true, cond_false,
    aOp_move, aOp_assign, aOp_pick, aOp_build, aOp_load, aOp_store, aOp_nilCheck, aOp_binOp, aOp_unOp, aOp_makeFunc, aOp_slice, aOp_fieldAddr, aOp_field, aOp_indexAddr, aOp_index, aOp_lookup, aOp_mapUpdate, aOp_range, aOp_entry, aOp_extract, aOp_call, aOp_alloc, aOp_box, aOp_makeMap, aOp_buildSlice, aInvoke_func,
    nbeq, nble, nblt, cond_dec, decide_true, decide_false, decide_eq_true_eq, Bool.false_eq_true, Bool.and_true, Bool.true_and, Bool.not_true, Bool.not_false, bq_t, bq_f, ev, evs, evPairs, evOpt, closed, flat, tget_put, Nat.reduceEqDiff, Nat.reduceAdd, Nat.reduceMul, Nat.reduceSub, Nat.reduceLT, Nat.reduceLeDiff, Nat.reduceBEq, reduceIte, if_true, if_false, reduceCtorEq, nth, aCall, aEnter, notYield, aNilCheck, aLoad, partV, isAggD, aFieldAddr, aField, aExtract, b_add, b_sub, b_mul, b_xor, b_eql, b_neq, b_lss, b_leq, b_gtr, b_geq, b_shr, Option.isNone, aBuiltin,
    List.length_cons, List.length_nil, true_implies, false_implies, and_true, true_and, implies_true, forall_const, List.append_nil, List.cons_append, List.nil_append, ASt.get_set, ASt.get_new, ASt.next_set, ASt.next_new, Nat.zero_add, Nat.add_zero, eq_self, ctor_self, ti63, t63_desc, t63_size, ti25, t25_desc, ti22, t22_desc, t22_size, ti59, t59_desc, t59_size, ti60, t60_desc, t60_size, ti61, t61_desc, t61_size, ti3, t3_desc, t3_size, ti40, t40_desc, t40_size, ti33, t33_desc, t33_size, ti9, t9_desc, t9_size, wrow_now, wrow_all, eqnil25, fn17, fn26, fn27, fn28, fn29, fn38, fn39, fn12, fn14, fn15, quietW_nil, quietW_arr, quietW_cons, aStill, freshOp, quietOp, E0_ron, get_empty, get_next, ofVal_none, valEq_int, valEq_str, valEq_bool, valEq_map, valEq_ptr, valEq_slice, valEq_nilSlice, valEq_mapNil, List.length_cons, List.length_nil, wti, wfn, wbin, wbox, wlen, wix, wcv, wbs, wapp, wst, widx, aOp_convert, fc35, fc53, fc29, qc35, qc53, qc29, cv35, cv53, y0, y8, y12, y13, hl8, hix8, hb8, g8, hixd, hbd, gn, ga, f1, f2, f3, f5, f6, ve8, ved, rb8, rbd, f7, undef, gn', ga', hixp, hwj, f8, f9, s_leq, hbl]
                      exact ⟨_, _, rfl, by simp only [tget_put, Nat.reduceEqDiff, if_false, if_true, reduceIte, and_self], by simp only [tget_put, Nat.reduceEqDiff, if_false, if_true, reduceIte, y0], by simp only [tget_put, Nat.reduceEqDiff, if_false, if_true, reduceIte, y2], by simp only [tget_put, Nat.reduceEqDiff, if_false, if_true, reduceIte, y7], by simp only [tget_put, Nat.reduceEqDiff, if_false, if_true, reduceIte, y8], by simp only [tget_put, Nat.reduceEqDiff, if_false, if_true, reduceIte, y11], by simp only [tget_put, Nat.reduceEqDiff, if_false, if_true, reduceIte, y12], by simp only [tget_put, Nat.reduceEqDiff, if_false, if_true, reduceIte, y13], by simp only [tget_put, Nat.reduceEqDiff, if_false, if_true, reduceIte, and_self], Nat.le_add_right _ _, rfl⟩
                    · have f9 : (((t.2 : Nat) : Int) = ((u.2 : Nat) : Int)) = False := eq_false (by omega)
                      simp only [oneW_next, tg_eq, tgN_eq, brW_true, brW_false, c_skip, c_ret, c_exit, c_seq, c_cond, condW_b, c_block, c_scope, c_region, c_drawn, c_loop, onw_n, onw_r, onw_e, outb_e, outb_o, outb_n, outb_r, putW_some, putW_none, opsW_arr, opsW_nil, opsW_cons, wanted_none, wanted_some, guardB_some, oneW_next, oneW_move, oneW_assign, oneW_pick, oneW_build, oneW_load, oneW_store, oneW_nilCheck, oneW_binOp, oneW_unOp, oneW_makeFunc, oneW_slice, oneW_fieldAddr, oneW_field, oneW_indexAddr, oneW_index, oneW_lookup, oneW_mapUpdate, oneW_range, oneW_entry, oneW_extract, oneW_call, oneW_alloc, oneW_box, oneW_makeMap, oneW_buildSlice, oneW_convert, Hands, handsV, resultsV, oneOrTuple, argsT, arW_val, ofVal_some, plain_val, cond_true, cond_false,
    aOp_move, aOp_assign, aOp_pick, aOp_build, aOp_load, aOp_store, aOp_nilCheck, aOp_binOp, aOp_unOp, aOp_makeFunc, aOp_slice, aOp_fieldAddr, aOp_field, aOp_indexAddr, aOp_index, aOp_lookup, aOp_mapUpdate, aOp_range, aOp_entry, aOp_extract, aOp_call, aOp_alloc, aOp_box, aOp_makeMap, aOp_buildSlice, aInvoke_func,
    nbeq, nble, nblt, cond_dec, decide_true, decide_false, decide_eq_true_eq, Bool.false_eq_true, Bool.and_true, Bool.true_and, Bool.not_true, Bool.not_false, bq_t, bq_f, ev, evs, evPairs, evOpt, closed, flat, tget_put, Nat.reduceEqDiff, Nat.reduceAdd, Nat.reduceMul, Nat.reduceSub, Nat.reduceLT, Nat.reduceLeDiff, Nat.reduceBEq, reduceIte, if_true, if_false, reduceCtorEq, nth, aCall, aEnter, notYield, aNilCheck, aLoad, partV, isAggD, aFieldAddr, aField, aExtract, b_add, b_sub, b_mul, b_xor, b_eql, b_neq, b_lss, b_leq, b_gtr, b_geq, b_shr, Option.isNone, aBuiltin,
    List.length_cons, List.length_nil, true_implies, false_implies, and_true, true_and, implies_true, forall_const, List.append_nil, List.cons_append, List.nil_append, ASt.get_set, ASt.get_new, ASt.next_set, ASt.next_new, Nat.zero_add, Nat.add_zero, eq_self, ctor_self, ti63, t63_desc, t63_size, ti25, t25_desc, ti22, t22_desc, t22_size, ti59, t59_desc, t59_size, ti60, t60_desc, t60_size, ti61, t61_desc, t61_size, ti3, t3_desc, t3_size, ti40, t40_desc, t40_size, ti33, t33_desc, t33_size, ti9, t9_desc, t9_size, wrow_now, wrow_all, eqnil25, fn17, fn26, fn27, fn28, fn29, fn38, fn39, fn12, fn14, fn15, quietW_nil, quietW_arr, quietW_cons, aStill, freshOp, quietOp, E0_ron, get_empty, get_next, ofVal_none, valEq_int, valEq_str, valEq_bool, valEq_map, valEq_ptr, valEq_slice, valEq_nilSlice, valEq_mapNil, List.length_cons, List.length_nil, wti, wfn, wbin, wbox, wlen, wix, wcv, wbs, wapp, wst, widx, aOp_convert, fc35, fc53, fc29, qc35, qc53, qc29, cv35, cv53, y0, y8, y12, y13, hl8, hix8, hb8, g8, hixd, hbd, gn, ga, f1, f2, f3, f5, f6, ve8, ved, rb8, rbd, f7, undef, gn', ga', hixp, hwj, f8, f9]
                      exact ⟨_, _, rfl, by simp only [tget_put, Nat.reduceEqDiff, if_false, if_true, reduceIte, and_self], by simp only [tget_put, Nat.reduceEqDiff, if_false, if_true, reduceIte, y0], by simp only [tget_put, Nat.reduceEqDiff, if_false, if_true, reduceIte, y2], by simp only [tget_put, Nat.reduceEqDiff, if_false, if_true, reduceIte, y7], by simp only [tget_put, Nat.reduceEqDiff, if_false, if_true, reduceIte, y8], by simp only [tget_put, Nat.reduceEqDiff, if_false, if_true, reduceIte, y11], by simp only [tget_put, Nat.reduceEqDiff, if_false, if_true, reduceIte, y12], by simp only [tget_put, Nat.reduceEqDiff, if_false, if_true, reduceIte, y13], by simp only [tget_put, Nat.reduceEqDiff, if_false, if_true, reduceIte, and_self], Nat.le_add_right _ _, rfl⟩
                  · have f7 : ((j : Int) > 0) = False := eq_false (by omega)
                    simp only [List.append_eq, List.cons_append, List.nil_append]
                    simp only [oneW_next, tg_eq, tgN_eq, brW_true, brW_false, c_skip, c_ret, c_exit, c_seq, c_cond, condW_b, c_block, c_scope, c_region, c_drawn, c_loop, onw_n, onw_r, onw_e, outb_e, outb_o, outb_n, outb_r, putW_some, putW_none, opsW_arr, opsW_nil, opsW_cons, wanted_none, wanted_some, guardB_some, oneW_next, oneW_move, oneW_assign, oneW_pick, oneW_build, oneW_load, oneW_store, oneW_nilCheck, oneW_binOp, oneW_unOp, oneW_makeFunc, oneW_slice, oneW_fieldAddr, oneW_field, oneW_indexAddr, oneW_index, oneW_lookup, oneW_mapUpdate, oneW_range, oneW_entry, oneW_extract, oneW_call, oneW_alloc, oneW_box, oneW_makeMap, oneW_buildSlice, oneW_convert, Hands, handsV, resultsV, oneOrTuple, argsT, arW_val, ofVal_some, plain_val, cond_true, cond_false,
    aOp_move, aOp_assign, aOp_pick, aOp_build, aOp_load, aOp_store, aOp_nilCheck, aOp_binOp, aOp_unOp, aOp_makeFunc, aOp_slice, aOp_fieldAddr, aOp_field, aOp_indexAddr, aOp_index, aOp_lookup, aOp_mapUpdate, aOp_range, aOp_entry, aOp_extract, aOp_call, aOp_alloc, aOp_box, aOp_makeMap, aOp_buildSlice, aInvoke_func,
    nbeq, nble, nblt, cond_dec, decide_true, decide_false, decide_eq_true_eq, Bool.false_eq_true, Bool.and_true, Bool.true_and, Bool.not_true, Bool.not_false, bq_t, bq_f, ev, evs, evPairs, evOpt, closed, flat, tget_put, Nat.reduceEqDiff, Nat.reduceAdd, Nat.reduceMul, Nat.reduceSub, Nat.reduceLT, Nat.reduceLeDiff, Nat.reduceBEq, reduceIte, if_true, if_false, reduceCtorEq, nth, aCall, aEnter, notYield, aNilCheck, aLoad, partV, isAggD, aFieldAddr, aField, aExtract, b_add, b_sub, b_mul, b_xor, b_eql, b_neq, b_lss, b_leq, b_gtr, b_geq, b_shr, Option.isNone, aBuiltin,
    List.length_cons, List.length_nil, true_implies, false_implies, and_true, true_and, implies_true, forall_const, List.append_nil, List.cons_append, List.nil_append, ASt.get_set, ASt.get_new, ASt.next_set, ASt.next_new, Nat.zero_add, Nat.add_zero, eq_self, ctor_self, ti63, t63_desc, t63_size, ti25, t25_desc, ti22, t22_desc, t22_size, ti59, t59_desc, t59_size, ti60, t60_desc, t60_size, ti61, t61_desc, t61_size, ti3, t3_desc, t3_size, ti40, t40_desc, t40_size, ti33, t33_desc, t33_size, ti9, t9_desc, t9_size, wrow_now, wrow_all, eqnil25, fn17, fn26, fn27, fn28, fn29, fn38, fn39, fn12, fn14, fn15, quietW_nil, quietW_arr, quietW_cons, aStill, freshOp, quietOp, E0_ron, get_empty, get_next, ofVal_none, valEq_int, valEq_str, valEq_bool, valEq_map, valEq_ptr, valEq_slice, valEq_nilSlice, valEq_mapNil, List.length_cons, List.length_nil, wti, wfn, wbin, wbox, wlen, wix, wcv, wbs, wapp, wst, widx, aOp_convert, fc35, fc53, fc29, qc35, qc53, qc29, cv35, cv53, y0, y8, y12, y13, hl8, hix8, hb8, g8, hixd, hbd, gn, ga, f1, f2, f3, f5, f6, ve8, ved, rb8, rbd, f7, undef]
                    exact ⟨_, _, rfl, by simp only [tget_put, Nat.reduceEqDiff, if_false, if_true, reduceIte, and_self], by simp only [tget_put, Nat.reduceEqDiff, if_false, if_true, reduceIte, y0], by simp only [tget_put, Nat.reduceEqDiff, if_false, if_true, reduceIte, y2], by simp only [tget_put, Nat.reduceEqDiff, if_false, if_true, reduceIte, y7], by simp only [tget_put, Nat.reduceEqDiff, if_false, if_true, reduceIte, y8], by simp only [tget_put, Nat.reduceEqDiff, if_false, if_true, reduceIte, y11], by simp only [tget_put, Nat.reduceEqDiff, if_false, if_true, reduceIte, y12], by simp only [tget_put, Nat.reduceEqDiff, if_false, if_true, reduceIte, y13], by simp only [tget_put, Nat.reduceEqDiff, if_false, if_true, reduceIte, and_self], Nat.le_add_right _ _, rfl⟩
                · rintro o ⟨T6, A6, rfl, z178, z0, z2, z7, z8, z11, z12, z13, z14, hn6, hh6⟩
                  have hg6 : ∀ b, A6.get b = A5.get b := fun b => by unfold ASt.get; rw [hh6]
                  have hst : aStore E0 22 (.pointer (some ⟨b8, n, none⟩)) (.int .u64 0) A6 = some (A6.set b8 (.row (ucells (ats'.set n 0)) 1 true)) := SliceU.store (lo := 0) (x := 0) (by rw [hg6]; exact hb8) hnl'
                  have ht' := htold.snoc hnl (by omega)
                  have hn0 : (ts.take j).map (·.1) ++ [nm n] = (ts.take (j + 1)).map (·.1) := by
                    rw [List.take_add_one, hxj, List.map_append, ← hn3]; rfl
                  rw [hn0] at ht'
                  have hsl' : SliceU (A6.set b8 (.row (ucells (ats'.set n 0)) 1 true)) B.next v8 (ats'.set n 0) := .inr ⟨b8, by rw [List.length_set]; exact hv8, by rw [ASt.get_set, if_pos rfl], hlo8, by rw [ASt.next_set]; omega⟩
                  simp only [oneW_next, tg_eq, tgN_eq, brW_true, brW_false, c_skip, c_ret, c_exit, c_seq, c_cond, condW_b, c_block, c_scope, c_region, c_drawn, c_loop, onw_n, onw_r, onw_e, outb_e, outb_o, outb_n, outb_r, putW_some, putW_none, opsW_arr, opsW_nil, opsW_cons, wanted_none, wanted_some, guardB_some, oneW_next, oneW_move, oneW_assign, oneW_pick, oneW_build, oneW_load, oneW_store, oneW_nilCheck, oneW_binOp, oneW_unOp, oneW_makeFunc, oneW_slice, oneW_fieldAddr, oneW_field, oneW_indexAddr, oneW_index, oneW_lookup, oneW_mapUpdate, oneW_range, oneW_entry, oneW_extract, oneW_call, oneW_alloc, oneW_box, oneW_makeMap, oneW_buildSlice, oneW_convert, Hands, handsV, resultsV, oneOrTuple, argsT, arW_val, ofVal_some, plain_val, cond_true, cond_false,
    aOp_move, aOp_assign, aOp_pick, aOp_build, aOp_load, aOp_store, aOp_nilCheck, aOp_binOp, aOp_unOp, aOp_makeFunc, aOp_slice, aOp_fieldAddr, aOp_field, aOp_indexAddr, aOp_index, aOp_lookup, aOp_mapUpdate, aOp_range, aOp_entry, aOp_extract, aOp_call, aOp_alloc, aOp_box, aOp_makeMap, aOp_buildSlice, aInvoke_func,
    nbeq, nble, nblt, cond_dec, decide_true, decide_false, decide_eq_true_eq, Bool.false_eq_true, Bool.and_true, Bool.true_and, Bool.not_true, Bool.not_false, bq_t, bq_f, ev, evs, evPairs, evOpt, closed, flat, tget_put, Nat.reduceEqDiff, Nat.reduceAdd, Nat.reduceMul, Nat.reduceSub, Nat.reduceLT, Nat.reduceLeDiff, Nat.reduceBEq, reduceIte, if_true, if_false, reduceCtorEq, nth, aCall, aEnter, notYield, aNilCheck, aLoad, partV, isAggD, aFieldAddr, aField, aExtract, b_add, b_sub, b_mul, b_xor, b_eql, b_neq, b_lss, b_leq, b_gtr, b_geq, b_shr, Option.isNone, aBuiltin,
    List.length_cons, List.length_nil, true_implies, false_implies, and_true, true_and, implies_true, forall_const, List.append_nil, List.cons_append, List.nil_append, ASt.get_set, ASt.get_new, ASt.next_set, ASt.next_new, Nat.zero_add, Nat.add_zero, eq_self, ctor_self, ti63, t63_desc, t63_size, ti25, t25_desc, ti22, t22_desc, t22_size, ti59, t59_desc, t59_size, ti60, t60_desc, t60_size, ti61, t61_desc, t61_size, ti3, t3_desc, t3_size, ti40, t40_desc, t40_size, ti33, t33_desc, t33_size, ti9, t9_desc, t9_size, wrow_now, wrow_all, eqnil25, fn17, fn26, fn27, fn28, fn29, fn38, fn39, fn12, fn14, fn15, wti, wfn, wbin, wbox, wlen, wix, wcv, wbs, wapp, wst, widx, aOp_convert, fc35, fc53, fc29, qc35, qc53, qc29, cv35, cv53, z178, z8, z14, z13, hix8, hst, wrap_succ (show j < 1000000 by omega)]
                  exact ⟨ts.length - (j + 1), by omega, j + 1, _, rfl, by omega, rfl, z0, z2, z7, z11, z12, ht', hsl', by omega, fun b hb => by rw [if_neg (by omega), hg6]; exact hget b hb⟩
              · have d4 : ((j : Int) < (ts.length : Int)) = False := eq_false (by omega)
                have ej : j = ts.length := by omega
                subst ej
                simp only [oneW_next, tg_eq, tgN_eq, brW_true, brW_false, c_skip, c_ret, c_exit, c_seq, c_cond, condW_b, c_block, c_scope, c_region, c_drawn, c_loop, onw_n, onw_r, onw_e, outb_e, outb_o, outb_n, outb_r, putW_some, putW_none, opsW_arr, opsW_nil, opsW_cons, wanted_none, wanted_some, guardB_some, oneW_next, oneW_move, oneW_assign, oneW_pick, oneW_build, oneW_load, oneW_store, oneW_nilCheck, oneW_binOp, oneW_unOp, oneW_makeFunc, oneW_slice, oneW_fieldAddr, oneW_field, oneW_indexAddr, oneW_index, oneW_lookup, oneW_mapUpdate, oneW_range, oneW_entry, oneW_extract, oneW_call, oneW_alloc, oneW_box, oneW_makeMap, oneW_buildSlice, oneW_convert, Hands, handsV, resultsV, oneOrTuple, argsT, arW_val, ofVal_some, plain_val, cond_true, cond_false,
    aOp_move, aOp_assign, aOp_pick, aOp_build, aOp_load, aOp_store, aOp_nilCheck, aOp_binOp, aOp_unOp, aOp_makeFunc, aOp_slice, aOp_fieldAddr, aOp_field, aOp_indexAddr, aOp_index, aOp_lookup, aOp_mapUpdate, aOp_range, aOp_entry, aOp_extract, aOp_call, aOp_alloc, aOp_box, aOp_makeMap, aOp_buildSlice, aInvoke_func,
    nbeq, nble, nblt, cond_dec, decide_true, decide_false, decide_eq_true_eq, Bool.false_eq_true, Bool.and_true, Bool.true_and, Bool.not_true, Bool.not_false, bq_t, bq_f, ev, evs, evPairs, evOpt, closed, flat, tget_put, Nat.reduceEqDiff, Nat.reduceAdd, Nat.reduceMul, Nat.reduceSub, Nat.reduceLT, Nat.reduceLeDiff, Nat.reduceBEq, reduceIte, if_true, if_false, reduceCtorEq, nth, aCall, aEnter, notYield, aNilCheck, aLoad, partV, isAggD, aFieldAddr, aField, aExtract, b_add, b_sub, b_mul, b_xor, b_eql, b_neq, b_lss, b_leq, b_gtr, b_geq, b_shr, Option.isNone, aBuiltin,
    List.length_cons, List.length_nil, true_implies, false_implies, and_true, true_and, implies_true, forall_const, List.append_nil, List.cons_append, List.nil_append, ASt.get_set, ASt.get_new, ASt.next_set, ASt.next_new, Nat.zero_add, Nat.add_zero, eq_self, ctor_self, ti63, t63_desc, t63_size, ti25, t25_desc, ti22, t22_desc, t22_size, ti59, t59_desc, t59_size, ti60, t60_desc, t60_size, ti61, t61_desc, t61_size, ti3, t3_desc, t3_size, ti40, t40_desc, t40_size, ti33, t33_desc, t33_size, ti9, t9_desc, t9_size, wrow_now, wrow_all, eqnil25, fn17, fn26, fn27, fn28, fn29, fn38, fn39, fn12, fn14, fn15, wti, wfn, wbin, wbox, wlen, wix, wcv, wbs, wapp, wst, widx, aOp_convert, fc35, fc53, fc29, qc35, qc53, qc29, cv35, cv53, y13, y12, hlv, d4]
                rw [List.take_length] at htold
                exact ⟨_, _, ats', rfl, by simp only [tget_put, Nat.reduceEqDiff, if_false, if_true, reduceIte, y0], by simp only [tget_put, Nat.reduceEqDiff, if_false, if_true, reduceIte, y2], by simp only [tget_put, Nat.reduceEqDiff, if_false, if_true, reduceIte, y7], by simp only [tget_put, Nat.reduceEqDiff, if_false, if_true, reduceIte, y8], by simp only [tget_put, Nat.reduceEqDiff, if_false, if_true, reduceIte, y11], htold, hsl, hnx, hget⟩
            all_goals simp only [tget_put, Nat.reduceEqDiff, if_false, if_true, reduceIte, w0, w2, w7, w8, w11]
            all_goals rfl
          · rintro o ⟨T5, A5, ats', rfl, y0, y2, y7, y8, y11, htold, hsl, hnx, hget⟩
            have hclr : ats' = clr nw ats := Told.all hd.mt (by omega) hts htold
            have hmt' := hd.mt.adv nw
            rw [← hclr] at hmt'
            have htwo := hd.two
            have hal : ats'.length ≤ 40 := by rw [htold.1]; exact hat
            have hd5 : Due B.next A5 W all ms nw (fun k => (M k).filter fun a => decide (nw < a)) v8 ats' :=
              { wh := hw4.congr hnx (fun b hb => hget b (.inl (hd.own b hb))), mt := hmt', sl := hsl, own := hd.own
                n0 := by rw [hget 0 (.inl (by omega)), f4.get 0 (by omega) (hd.wh.nn hd.n0)]; exact hd.n0
                n1 := by rw [hget 1 (.inl (by omega)), f4.get 1 (by omega) (hd.wh.nn hd.n1)]; exact hd.n1
                le := by omega, two := hd.two }
            have hpos : ∀ (j a : Nat), ats'[j]? = some a → a = 0 ∨ nw < a := by
              intro j a hj
              rw [hclr, clr_get] at hj
              obtain ⟨b, _, e⟩ := Option.map_eq_some_iff.1 hj
              by_cases hb : b ≤ nw
              · rw [if_pos hb] at e; exact .inl e.symm
              · rw [if_neg hb] at e; exact .inr (by omega)
            have hl8 : ∀ A, aLen E0 23 v8 A = some (.int .i64 (ats'.length : Int)) := fun _ => hsl.len
            simp only [oneW_next, tg_eq, tgN_eq, brW_true, brW_false, c_skip, c_ret, c_exit, c_seq, c_cond, condW_b, c_block, c_scope, c_region, c_drawn, c_loop, onw_n, onw_r, onw_e, outb_e, outb_o, outb_n, outb_r, putW_some, putW_none, opsW_arr, opsW_nil, opsW_cons, wanted_none, wanted_some, guardB_some, oneW_next, oneW_move, oneW_assign, oneW_pick, oneW_build, oneW_load, oneW_store, oneW_nilCheck, oneW_binOp, oneW_unOp, oneW_makeFunc, oneW_slice, oneW_fieldAddr, oneW_field, oneW_indexAddr, oneW_index, oneW_lookup, oneW_mapUpdate, oneW_range, oneW_entry, oneW_extract, oneW_call, oneW_alloc, oneW_box, oneW_makeMap, oneW_buildSlice, oneW_convert, Hands, handsV, resultsV, oneOrTuple, argsT, arW_val, ofVal_some, plain_val, cond_true, cond_false,
    aOp_move, aOp_assign, aOp_pick, aOp_build, aOp_load, aOp_store, aOp_nilCheck, aOp_binOp, aOp_unOp, aOp_makeFunc, aOp_slice, aOp_fieldAddr, aOp_field, aOp_indexAddr, aOp_index, aOp_lookup, aOp_mapUpdate, aOp_range, aOp_entry, aOp_extract, aOp_call, aOp_alloc, aOp_box, aOp_makeMap, aOp_buildSlice, aInvoke_func,
    nbeq, nble, nblt, cond_dec, decide_true, decide_false, decide_eq_true_eq, Bool.false_eq_true, Bool.and_true, Bool.true_and, Bool.not_true, Bool.not_false, bq_t, bq_f, ev, evs, evPairs, evOpt, closed, flat, tget_put, Nat.reduceEqDiff, Nat.reduceAdd, Nat.reduceMul, Nat.reduceSub, Nat.reduceLT, Nat.reduceLeDiff, Nat.reduceBEq, reduceIte, if_true, if_false, reduceCtorEq, nth, aCall, aEnter, notYield, aNilCheck, aLoad, partV, isAggD, aFieldAddr, aField, aExtract, b_add, b_sub, b_mul, b_xor, b_eql, b_neq, b_lss, b_leq, b_gtr, b_geq, b_shr, Option.isNone, aBuiltin,
    List.length_cons, List.length_nil, true_implies, false_implies, and_true, true_and, implies_true, forall_const, List.append_nil, List.cons_append, List.nil_append, ASt.get_set, ASt.get_new, ASt.next_set, ASt.next_new, Nat.zero_add, Nat.add_zero, eq_self, ctor_self, ti63, t63_desc, t63_size, ti25, t25_desc, ti22, t22_desc, t22_size, ti59, t59_desc, t59_size, ti60, t60_desc, t60_size, ti61, t61_desc, t61_size, ti3, t3_desc, t3_size, ti40, t40_desc, t40_size, ti33, t33_desc, t33_size, ti9, t9_desc, t9_size, wrow_now, wrow_all, eqnil25, fn17, fn26, fn27, fn28, fn29, fn38, fn39, fn12, fn14, fn15, wti, wfn, wbin, wbox, wlen, wix, wcv, wbs, wapp, wst, widx, aOp_convert, fc35, fc53, fc29, qc35, qc53, qc29, cv35, cv53]
            refine CodeW.mono (Q := fun o => ∃ T', o = .fr ⟨.exit 6, T', A5⟩ ∧ tget T' 0 = .int .u64 (nw : Int) ∧ tget T' 2 = pv ∧ tget T' 7 = .pointer (some ⟨W, 0, none⟩) ∧ tget T' 8 = v8 ∧ tget T' 11 = .int .i64 (i : Int) ∧ tget T' 15 = .int .i64 (above ats'.length ats' : Int)) ?_ ?_
            · refine CodeW.loopR (k := ats'.length) (fun k T A' => ∃ j, k = ats'.length - j ∧ j ≤ ats'.length ∧ tget T 16 = .int .i64 (j : Int) ∧ tget T 0 = .int .u64 (nw : Int) ∧ tget T 2 = pv ∧ tget T 7 = .pointer (some ⟨W, 0, none⟩) ∧ tget T 8 = v8 ∧ tget T 11 = .int .i64 (i : Int) ∧ tget T 15 = .int .i64 (above j ats' : Int) ∧ A' = A5) ?_ ⟨0, rfl, by omega, ?_, ?_, ?_, ?_, ?_, ?_, ?_, rfl⟩
              · rintro k T A6 ⟨j, rfl, hj, z16, z0, z2, z7, z8, z11, z15, rfl⟩
                refine codeW_ok (withRo_ok E0_ok) hro ?_
                by_cases e2 : j < ats'.length
                · have d4 : ((j : Int) < (ats'.length : Int)) = True := eq_true (by omega)
                  have hxj : ats'[j]? = some ats'[j] := List.getElem?_eq_getElem _
                  generalize ats'[j] = x at hxj
                  have g8 := ucells_nth hxj
                  obtain ⟨b8, hv8, hix8, hb8, hlo8, hhi8⟩ := hsl.ix e2
                  have hps := hpos j x hxj
                  have habs := above_succ hxj
                  have hab := above_le (n := j) (ats := ats')
                  by_cases hx0 : 0 < x
                  · have f1 : ((x : Int) > 0) = True := eq_true (by omega)
                    have f2 : ((x : Int) ≤ (nw : Int)) = False := eq_false (by omega)
                    rw [if_pos hx0] at habs
                    simp only [oneW_next, tg_eq, tgN_eq, brW_true, brW_false, c_skip, c_ret, c_exit, c_seq, c_cond, condW_b, c_block, c_scope, c_region, c_drawn, c_loop, onw_n, onw_r, onw_e, outb_e, outb_o, outb_n, outb_r, putW_some, putW_none, opsW_arr, opsW_nil, opsW_cons, wanted_none, wanted_some, guardB_some, oneW_next, oneW_move, oneW_assign, oneW_pick, oneW_build, oneW_load, oneW_store, oneW_nilCheck, oneW_binOp, oneW_unOp, oneW_makeFunc, oneW_slice, oneW_fieldAddr, oneW_field, oneW_indexAddr, oneW_index, oneW_lookup, oneW_mapUpdate, oneW_range, oneW_entry, oneW_extract, oneW_call, oneW_alloc, oneW_box, oneW_makeMap, oneW_buildSlice, oneW_convert, Hands, handsV, resultsV, oneOrTuple, argsT, arW_val, ofVal_some, plain_val, cond_true, cond_false,
    aOp_move, aOp_assign, aOp_pick, aOp_build, aOp_load, aOp_store, aOp_nilCheck, aOp_binOp, aOp_unOp, aOp_makeFunc, aOp_slice, aOp_fieldAddr, aOp_field, aOp_indexAddr, aOp_index, aOp_lookup, aOp_mapUpdate, aOp_range, aOp_entry, aOp_extract, aOp_call, aOp_alloc, aOp_box, aOp_makeMap, aOp_buildSlice, aInvoke_func,
    nbeq, nble, nblt, cond_dec, decide_true, decide_false, decide_eq_true_eq, Bool.false_eq_true, Bool.and_true, Bool.true_and, Bool.not_true, Bool.not_false, bq_t, bq_f, ev, evs, evPairs, evOpt, closed, flat, tget_put, Nat.reduceEqDiff, Nat.reduceAdd, Nat.reduceMul, Nat.reduceSub, Nat.reduceLT, Nat.reduceLeDiff, Nat.reduceBEq, reduceIte, if_true, if_false, reduceCtorEq, nth, aCall, aEnter, notYield, aNilCheck, aLoad, partV, isAggD, aFieldAddr, aField, aExtract, b_add, b_sub, b_mul, b_xor, b_eql, b_neq, b_lss, b_leq, b_gtr, b_geq, b_shr, Option.isNone, aBuiltin,
    List.length_cons, List.length_nil, true_implies, false_implies, and_true, true_and, implies_true, forall_const, List.append_nil, List.cons_append, List.nil_append, ASt.get_set, ASt.get_new, ASt.next_set, ASt.next_new, Nat.zero_add, Nat.add_zero, eq_self, ctor_self, ti63, t63_desc, t63_size, ti25, t25_desc, ti22, t22_desc, t22_size, ti59, t59_desc, t59_size, ti60, t60_desc, t60_size, ti61, t61_desc, t61_size, ti3, t3_desc, t3_size, ti40, t40_desc, t40_size, ti33, t33_desc, t33_size, ti9, t9_desc, t9_size, wrow_now, wrow_all, eqnil25, fn17, fn26, fn27, fn28, fn29, fn38, fn39, fn12, fn14, fn15, wti, wfn, wbin, wbox, wlen, wix, wcv, wbs, wapp, wst, widx, aOp_convert, fc35, fc53, fc29, qc35, qc53, qc29, cv35, cv53, z16, z8, z0, z15, hl8, d4, hix8, hb8, g8, f1, f2, wrap_succ (show j < 1000000 by omega), wrap_succ (show above j ats' < 1000000 by omega)]
                    exact ⟨ats'.length - (j + 1), by omega, j + 1, rfl, by omega, rfl, z2, z7, z11, by rw [habs]⟩
                  · have f1 : ((x : Int) > 0) = False := eq_false (by omega)
                    rw [if_neg hx0] at habs
                    simp only [oneW_next, tg_eq, tgN_eq, brW_true, brW_false, c_skip, c_ret, c_exit, c_seq, c_cond, condW_b, c_block, c_scope, c_region, c_drawn, c_loop, onw_n, onw_r, onw_e, outb_e, outb_o, outb_n, outb_r, putW_some, putW_none, opsW_arr, opsW_nil, opsW_cons, wanted_none, wanted_some, guardB_some, oneW_next, oneW_move, oneW_assign, oneW_pick, oneW_build, oneW_load, oneW_store, oneW_nilCheck, oneW_binOp, oneW_unOp, oneW_makeFunc, oneW_slice, oneW_fieldAddr, oneW_field, oneW_indexAddr, oneW_index, oneW_lookup, oneW_mapUpdate, oneW_range, oneW_entry, oneW_extract, oneW_call, oneW_alloc, oneW_box, oneW_makeMap, oneW_buildSlice, oneW_convert, Hands, handsV, resultsV, oneOrTuple, argsT, arW_val, ofVal_some, plain_val, cond_true, cond_false,
    aOp_move, aOp_assign, aOp_pick, aOp_build, aOp_load, aOp_store, aOp_nilCheck, aOp_binOp, aOp_unOp, aOp_makeFunc, aOp_slice, aOp_fieldAddr, aOp_field, aOp_indexAddr, aOp_index, aOp_lookup, aOp_mapUpdate, aOp_range, aOp_entry, aOp_extract, aOp_call, aOp_alloc, aOp_box, aOp_makeMap, aOp_buildSlice, aInvoke_func,
    nbeq, nble, nblt, cond_dec, decide_true, decide_false, decide_eq_true_eq, Bool.false_eq_true, Bool.and_true, Bool.true_and, Bool.not_true, Bool.not_false, bq_t, bq_f, ev, evs, evPairs, evOpt, closed, flat, tget_put, Nat.reduceEqDiff, Nat.reduceAdd, Nat.reduceMul, Nat.reduceSub, Nat.reduceLT, Nat.reduceLeDiff, Nat.reduceBEq, reduceIte, if_true, if_false, reduceCtorEq, nth, aCall, aEnter, notYield, aNilCheck, aLoad, partV, isAggD, aFieldAddr, aField, aExtract, b_add, b_sub, b_mul, b_xor, b_eql, b_neq, b_lss, b_leq, b_gtr, b_geq, b_shr, Option.isNone, aBuiltin,
    List.length_cons, List.length_nil, true_implies, false_implies, and_true, true_and, implies_true, forall_const, List.append_nil, List.cons_append, List.nil_append, ASt.get_set, ASt.get_new, ASt.next_set, ASt.next_new, Nat.zero_add, Nat.add_zero, eq_self, ctor_self, ti63, t63_desc, t63_size, ti25, t25_desc, ti22, t22_desc, t22_size, ti59, t59_desc, t59_size, ti60, t60_desc, t60_size, ti61, t61_desc, t61_size, ti3, t3_desc, t3_size, ti40, t40_desc, t40_size, ti33, t33_desc, t33_size, ti9, t9_desc, t9_size, wrow_now, wrow_all, eqnil25, fn17, fn26, fn27, fn28, fn29, fn38, fn39, fn12, fn14, fn15, wti, wfn, wbin, wbox, wlen, wix, wcv, wbs, wapp, wst, widx, aOp_convert, fc35, fc53, fc29, qc35, qc53, qc29, cv35, cv53, z16, z8, z0, z15, hl8, d4, hix8, hb8, g8, f1, wrap_succ (show j < 1000000 by omega)]
                    exact ⟨ats'.length - (j + 1), by omega, j + 1, rfl, by omega, rfl, z2, z7, z11, by rw [habs, Nat.add_zero]⟩
                · have d4 : ((j : Int) < (ats'.length : Int)) = False := eq_false (by omega)
                  have ej : j = ats'.length := by omega
                  subst ej
                  simp only [oneW_next, tg_eq, tgN_eq, brW_true, brW_false, c_skip, c_ret, c_exit, c_seq, c_cond, condW_b, c_block, c_scope, c_region, c_drawn, c_loop, onw_n, onw_r, onw_e, outb_e, outb_o, outb_n, outb_r, putW_some, putW_none, opsW_arr, opsW_nil, opsW_cons, wanted_none, wanted_some, guardB_some, oneW_next, oneW_move, oneW_assign, oneW_pick, oneW_build, oneW_load, oneW_store, oneW_nilCheck, oneW_binOp, oneW_unOp, oneW_makeFunc, oneW_slice, oneW_fieldAddr, oneW_field, oneW_indexAddr, oneW_index, oneW_lookup, oneW_mapUpdate, oneW_range, oneW_entry, oneW_extract, oneW_call, oneW_alloc, oneW_box, oneW_makeMap, oneW_buildSlice, oneW_convert, Hands, handsV, resultsV, oneOrTuple, argsT, arW_val, ofVal_some, plain_val, cond_true, cond_false,
    aOp_move, aOp_assign, aOp_pick, aOp_build, aOp_load, aOp_store, aOp_nilCheck, aOp_binOp, aOp_unOp, aOp_makeFunc, aOp_slice, aOp_fieldAddr, aOp_field, aOp_indexAddr, aOp_index, aOp_lookup, aOp_mapUpdate, aOp_range, aOp_entry, aOp_extract, aOp_call, aOp_alloc, aOp_box, aOp_makeMap, aOp_buildSlice, aInvoke_func,
    nbeq, nble, nblt, cond_dec, decide_true, decide_false, decide_eq_true_eq, Bool.false_eq_true, Bool.and_true, Bool.true_and, Bool.not_true, Bool.not_false, bq_t, bq_f, ev, evs, evPairs, evOpt, closed, flat, tget_put, Nat.reduceEqDiff, Nat.reduceAdd, Nat.reduceMul, Nat.reduceSub, Nat.reduceLT, Nat.reduceLeDiff, Nat.reduceBEq, reduceIte, if_true, if_false, reduceCtorEq, nth, aCall, aEnter, notYield, aNilCheck, aLoad, partV, isAggD, aFieldAddr, aField, aExtract, b_add, b_sub, b_mul, b_xor, b_eql, b_neq, b_lss, b_leq, b_gtr, b_geq, b_shr, Option.isNone, aBuiltin,
    List.length_cons, List.length_nil, true_implies, false_implies, and_true, true_and, implies_true, forall_const, List.append_nil, List.cons_append, List.nil_append, ASt.get_set, ASt.get_new, ASt.next_set, ASt.next_new, Nat.zero_add, Nat.add_zero, eq_self, ctor_self, ti63, t63_desc, t63_size, ti25, t25_desc, ti22, t22_desc, t22_size, ti59, t59_desc, t59_size, ti60, t60_desc, t60_size, ti61, t61_desc, t61_size, ti3, t3_desc, t3_size, ti40, t40_desc, t40_size, ti33, t33_desc, t33_size, ti9, t9_desc, t9_size, wrow_now, wrow_all, eqnil25, fn17, fn26, fn27, fn28, fn29, fn38, fn39, fn12, fn14, fn15, wti, wfn, wbin, wbox, wlen, wix, wcv, wbs, wapp, wst, widx, aOp_convert, fc35, fc53, fc29, qc35, qc53, qc29, cv35, cv53, z16, z8, hl8, d4]
                  exact ⟨_, rfl, by simp only [tget_put, Nat.reduceEqDiff, if_false, if_true, reduceIte, z0], by simp only [tget_put, Nat.reduceEqDiff, if_false, if_true, reduceIte, z2], by simp only [tget_put, Nat.reduceEqDiff, if_false, if_true, reduceIte, z7], by simp only [tget_put, Nat.reduceEqDiff, if_false, if_true, reduceIte, z8], by simp only [tget_put, Nat.reduceEqDiff, if_false, if_true, reduceIte, z11], by simp only [tget_put, Nat.reduceEqDiff, if_false, if_true, reduceIte, z15]⟩
              all_goals simp only [tget_put, Nat.reduceEqDiff, if_false, if_true, reduceIte, y0, y2, y7, y8, y11, above_zero]
              all_goals rfl
            · rintro o ⟨T6, rfl, z0, z2, z7, z8, z11, z15⟩
              simp only [oneW_next, tg_eq, tgN_eq, brW_true, brW_false, c_skip, c_ret, c_exit, c_seq, c_cond, condW_b, c_block, c_scope, c_region, c_drawn, c_loop, onw_n, onw_r, onw_e, outb_e, outb_o, outb_n, outb_r, putW_some, putW_none, opsW_arr, opsW_nil, opsW_cons, wanted_none, wanted_some, guardB_some, oneW_next, oneW_move, oneW_assign, oneW_pick, oneW_build, oneW_load, oneW_store, oneW_nilCheck, oneW_binOp, oneW_unOp, oneW_makeFunc, oneW_slice, oneW_fieldAddr, oneW_field, oneW_indexAddr, oneW_index, oneW_lookup, oneW_mapUpdate, oneW_range, oneW_entry, oneW_extract, oneW_call, oneW_alloc, oneW_box, oneW_makeMap, oneW_buildSlice, oneW_convert, Hands, handsV, resultsV, oneOrTuple, argsT, arW_val, ofVal_some, plain_val, cond_true, cond_false,
    aOp_move, aOp_assign, aOp_pick, aOp_build, aOp_load, aOp_store, aOp_nilCheck, aOp_binOp, aOp_unOp, aOp_makeFunc, aOp_slice, aOp_fieldAddr, aOp_field, aOp_indexAddr, aOp_index, aOp_lookup, aOp_mapUpdate, aOp_range, aOp_entry, aOp_extract, aOp_call, aOp_alloc, aOp_box, aOp_makeMap, aOp_buildSlice, aInvoke_func,
    nbeq, nble, nblt, cond_dec, decide_true, decide_false, decide_eq_true_eq, Bool.false_eq_true, Bool.and_true, Bool.true_and, Bool.not_true, Bool.not_false, bq_t, bq_f, ev, evs, evPairs, evOpt, closed, flat, tget_put, Nat.reduceEqDiff, Nat.reduceAdd, Nat.reduceMul, Nat.reduceSub, Nat.reduceLT, Nat.reduceLeDiff, Nat.reduceBEq, reduceIte, if_true, if_false, reduceCtorEq, nth, aCall, aEnter, notYield, aNilCheck, aLoad, partV, isAggD, aFieldAddr, aField, aExtract, b_add, b_sub, b_mul, b_xor, b_eql, b_neq, b_lss, b_leq, b_gtr, b_geq, b_shr, Option.isNone, aBuiltin,
    List.length_cons, List.length_nil, true_implies, false_implies, and_true, true_and, implies_true, forall_const, List.append_nil, List.cons_append, List.nil_append, ASt.get_set, ASt.get_new, ASt.next_set, ASt.next_new, Nat.zero_add, Nat.add_zero, eq_self, ctor_self, ti63, t63_desc, t63_size, ti25, t25_desc, ti22, t22_desc, t22_size, ti59, t59_desc, t59_size, ti60, t60_desc, t60_size, ti61, t61_desc, t61_size, ti3, t3_desc, t3_size, ti40, t40_desc, t40_size, ti33, t33_desc, t33_size, ti9, t9_desc, t9_size, wrow_now, wrow_all, eqnil25, fn17, fn26, fn27, fn28, fn29, fn38, fn39, fn12, fn14, fn15, wti, wfn, wbin, wbox, wlen, wix, wcv, wbs, wapp, wst, widx, aOp_convert, fc35, fc53, fc29, qc35, qc53, qc29, cv35, cv53, z7, fn14]
              refine CallT.mono (len_spec hd5.wh) ?_
              rintro _ A6 ⟨⟨c, rfl, hc⟩, rfl⟩
              have hcc : c = above ats'.length ats' := hc.uniq (hmt'.cnt (by omega))
              subst hcc
              have f1 : ∀ q : Int, (q ≠ q) = False := fun q => eq_false (by simp)
              simp only [oneW_next, tg_eq, tgN_eq, brW_true, brW_false, c_skip, c_ret, c_exit, c_seq, c_cond, condW_b, c_block, c_scope, c_region, c_drawn, c_loop, onw_n, onw_r, onw_e, outb_e, outb_o, outb_n, outb_r, putW_some, putW_none, opsW_arr, opsW_nil, opsW_cons, wanted_none, wanted_some, guardB_some, oneW_next, oneW_move, oneW_assign, oneW_pick, oneW_build, oneW_load, oneW_store, oneW_nilCheck, oneW_binOp, oneW_unOp, oneW_makeFunc, oneW_slice, oneW_fieldAddr, oneW_field, oneW_indexAddr, oneW_index, oneW_lookup, oneW_mapUpdate, oneW_range, oneW_entry, oneW_extract, oneW_call, oneW_alloc, oneW_box, oneW_makeMap, oneW_buildSlice, oneW_convert, Hands, handsV, resultsV, oneOrTuple, argsT, arW_val, ofVal_some, plain_val, cond_true, cond_false,
    aOp_move, aOp_assign, aOp_pick, aOp_build, aOp_load, aOp_store, aOp_nilCheck, aOp_binOp, aOp_unOp, aOp_makeFunc, aOp_slice, aOp_fieldAddr, aOp_field, aOp_indexAddr, aOp_index, aOp_lookup, aOp_mapUpdate, aOp_range, aOp_entry, aOp_extract, aOp_call, aOp_alloc, aOp_box, aOp_makeMap, aOp_buildSlice, aInvoke_func,
    nbeq, nble, nblt, cond_dec, decide_true, decide_false, decide_eq_true_eq, Bool.false_eq_true, Bool.and_true, Bool.true_and, Bool.not_true, Bool.not_false, bq_t, bq_f, ev, evs, evPairs, evOpt, closed, flat, tget_put, Nat.reduceEqDiff, Nat.reduceAdd, Nat.reduceMul, Nat.reduceSub, Nat.reduceLT, Nat.reduceLeDiff, Nat.reduceBEq, reduceIte, if_true, if_false, reduceCtorEq, nth, aCall, aEnter, notYield, aNilCheck, aLoad, partV, isAggD, aFieldAddr, aField, aExtract, b_add, b_sub, b_mul, b_xor, b_eql, b_neq, b_lss, b_leq, b_gtr, b_geq, b_shr, Option.isNone, aBuiltin,
    List.length_cons, List.length_nil, true_implies, false_implies, and_true, true_and, implies_true, forall_const, List.append_nil, List.cons_append, List.nil_append, ASt.get_set, ASt.get_new, ASt.next_set, ASt.next_new, Nat.zero_add, Nat.add_zero, eq_self, ctor_self, ti63, t63_desc, t63_size, ti25, t25_desc, ti22, t22_desc, t22_size, ti59, t59_desc, t59_size, ti60, t60_desc, t60_size, ti61, t61_desc, t61_size, ti3, t3_desc, t3_size, ti40, t40_desc, t40_size, ti33, t33_desc, t33_size, ti9, t9_desc, t9_size, wrow_now, wrow_all, eqnil25, fn17, fn26, fn27, fn28, fn29, fn38, fn39, fn12, fn14, fn15, wti, wfn, wbin, wbox, wlen, wix, wcv, wbs, wapp, wst, widx, aOp_convert, fc35, fc53, fc29, qc35, qc53, qc29, cv35, cv53, z7, z0, z15, f1, fn15]
              refine CallT.mono (clock_spec hd5.wh.row) ?_
              rintro _ A7 ⟨rfl, rfl⟩
              simp only [oneW_next, tg_eq, tgN_eq, brW_true, brW_false, c_skip, c_ret, c_exit, c_seq, c_cond, condW_b, c_block, c_scope, c_region, c_drawn, c_loop, onw_n, onw_r, onw_e, outb_e, outb_o, outb_n, outb_r, putW_some, putW_none, opsW_arr, opsW_nil, opsW_cons, wanted_none, wanted_some, guardB_some, oneW_next, oneW_move, oneW_assign, oneW_pick, oneW_build, oneW_load, oneW_store, oneW_nilCheck, oneW_binOp, oneW_unOp, oneW_makeFunc, oneW_slice, oneW_fieldAddr, oneW_field, oneW_indexAddr, oneW_index, oneW_lookup, oneW_mapUpdate, oneW_range, oneW_entry, oneW_extract, oneW_call, oneW_alloc, oneW_box, oneW_makeMap, oneW_buildSlice, oneW_convert, Hands, handsV, resultsV, oneOrTuple, argsT, arW_val, ofVal_some, plain_val, cond_true, cond_false,
    aOp_move, aOp_assign, aOp_pick, aOp_build, aOp_load, aOp_store, aOp_nilCheck, aOp_binOp, aOp_unOp, aOp_makeFunc, aOp_slice, aOp_fieldAddr, aOp_field, aOp_indexAddr, aOp_index, aOp_lookup, aOp_mapUpdate, aOp_range, aOp_entry, aOp_extract, aOp_call, aOp_alloc, aOp_box, aOp_makeMap, aOp_buildSlice, aInvoke_func,
    nbeq, nble, nblt, cond_dec, decide_true, decide_false, decide_eq_true_eq, Bool.false_eq_true, Bool.and_true, Bool.true_and, Bool.not_true, Bool.not_false, bq_t, bq_f, ev, evs, evPairs, evOpt, closed, flat, tget_put, Nat.reduceEqDiff, Nat.reduceAdd, Nat.reduceMul, Nat.reduceSub, Nat.reduceLT, Nat.reduceLeDiff, Nat.reduceBEq, reduceIte, if_true, if_false, reduceCtorEq, nth, aCall, aEnter, notYield, aNilCheck, aLoad, partV, isAggD, aFieldAddr, aField, aExtract, b_add, b_sub, b_mul, b_xor, b_eql, b_neq, b_lss, b_leq, b_gtr, b_geq, b_shr, Option.isNone, aBuiltin,
    List.length_cons, List.length_nil, true_implies, false_implies, and_true, true_and, implies_true, forall_const, List.append_nil, List.cons_append, List.nil_append, ASt.get_set, ASt.get_new, ASt.next_set, ASt.next_new, Nat.zero_add, Nat.add_zero, eq_self, ctor_self, ti63, t63_desc, t63_size, ti25, t25_desc, ti22, t22_desc, t22_size, ti59, t59_desc, t59_size, ti60, t60_desc, t60_size, ti61, t61_desc, t61_size, ti3, t3_desc, t3_size, ti40, t40_desc, t40_size, ti33, t33_desc, t33_size, ti9, t9_desc, t9_size, wrow_now, wrow_all, eqnil25, fn17, fn26, fn27, fn28, fn29, fn38, fn39, fn12, fn14, fn15, wti, wfn, wbin, wbox, wlen, wix, wcv, wbs, wapp, wst, widx, aOp_convert, fc35, fc53, fc29, qc35, qc53, qc29, cv35, cv53, z7, z0, z15, z11, f1, wrap_succ (show i < 1000000 by omega)]
              exact ⟨leaps.length - (i + 1), by omega, i + 1, nw, _, ats', rfl, by omega, rfl, rfl, hwl, z2, z8, hal, hd5⟩
        · have d3 : ((i : Int) < (leaps.length : Int)) = False := eq_false (by omega)
          simp only [oneW_next, tg_eq, tgN_eq, brW_true, brW_false, c_skip, c_ret, c_exit, c_seq, c_cond, condW_b, c_block, c_scope, c_region, c_drawn, c_loop, onw_n, onw_r, onw_e, outb_e, outb_o, outb_n, outb_r, putW_some, putW_none, opsW_arr, opsW_nil, opsW_cons, wanted_none, wanted_some, guardB_some, oneW_next, oneW_move, oneW_assign, oneW_pick, oneW_build, oneW_load, oneW_store, oneW_nilCheck, oneW_binOp, oneW_unOp, oneW_makeFunc, oneW_slice, oneW_fieldAddr, oneW_field, oneW_indexAddr, oneW_index, oneW_lookup, oneW_mapUpdate, oneW_range, oneW_entry, oneW_extract, oneW_call, oneW_alloc, oneW_box, oneW_makeMap, oneW_buildSlice, oneW_convert, Hands, handsV, resultsV, oneOrTuple, argsT, arW_val, ofVal_some, plain_val, cond_true, cond_false,
    aOp_move, aOp_assign, aOp_pick, aOp_build, aOp_load, aOp_store, aOp_nilCheck, aOp_binOp, aOp_unOp, aOp_makeFunc, aOp_slice, aOp_fieldAddr, aOp_field, aOp_indexAddr, aOp_index, aOp_lookup, aOp_mapUpdate, aOp_range, aOp_entry, aOp_extract, aOp_call, aOp_alloc, aOp_box, aOp_makeMap, aOp_buildSlice, aInvoke_func,
    nbeq, nble, nblt, cond_dec, decide_true, decide_false, decide_eq_true_eq, Bool.false_eq_true, Bool.and_true, Bool.true_and, Bool.not_true, Bool.not_false, bq_t, bq_f, ev, evs, evPairs, evOpt, closed, flat, tget_put, Nat.reduceEqDiff, Nat.reduceAdd, Nat.reduceMul, Nat.reduceSub, Nat.reduceLT, Nat.reduceLeDiff, Nat.reduceBEq, reduceIte, if_true, if_false, reduceCtorEq, nth, aCall, aEnter, notYield, aNilCheck, aLoad, partV, isAggD, aFieldAddr, aField, aExtract, b_add, b_sub, b_mul, b_xor, b_eql, b_neq, b_lss, b_leq, b_gtr, b_geq, b_shr, Option.isNone, aBuiltin,
    List.length_cons, List.length_nil, true_implies, false_implies, and_true, true_and, implies_true, forall_const, List.append_nil, List.cons_append, List.nil_append, ASt.get_set, ASt.get_new, ASt.next_set, ASt.next_new, Nat.zero_add, Nat.add_zero, eq_self, ctor_self, ti63, t63_desc, t63_size, ti25, t25_desc, ti22, t22_desc, t22_size, ti59, t59_desc, t59_size, ti60, t60_desc, t60_size, ti61, t61_desc, t61_size, ti3, t3_desc, t3_size, ti40, t40_desc, t40_size, ti33, t33_desc, t33_size, ti9, t9_desc, t9_size, wrow_now, wrow_all, eqnil25, fn17, fn26, fn27, fn28, fn29, fn38, fn39, fn12, fn14, fn15, wti, wfn, wbin, wbox, wlen, wix, wcv, wbs, wapp, wst, widx, aOp_convert, fc35, fc53, fc29, qc35, qc53, qc29, cv35, cv53, u11, u2, hpl, d3]
          exact ⟨_, _, rfl⟩
      all_goals simp only [tget_put, Nat.reduceEqDiff, if_false, if_true, reduceIte, u0, u2, u7, u8]
      all_goals rfl
    · rintro o ⟨T2, A2, rfl⟩
      simp only [oneW_next, tg_eq, tgN_eq, brW_true, brW_false, c_skip, c_ret, c_exit, c_seq, c_cond, condW_b, c_block, c_scope, c_region, c_drawn, c_loop, onw_n, onw_r, onw_e, outb_e, outb_o, outb_n, outb_r, putW_some, putW_none, opsW_arr, opsW_nil, opsW_cons, wanted_none, wanted_some, guardB_some, oneW_next, oneW_move, oneW_assign, oneW_pick, oneW_build, oneW_load, oneW_store, oneW_nilCheck, oneW_binOp, oneW_unOp, oneW_makeFunc, oneW_slice, oneW_fieldAddr, oneW_field, oneW_indexAddr, oneW_index, oneW_lookup, oneW_mapUpdate, oneW_range, oneW_entry, oneW_extract, oneW_call, oneW_alloc, oneW_box, oneW_makeMap, oneW_buildSlice, oneW_convert, Hands, handsV, resultsV, oneOrTuple, argsT, arW_val, ofVal_some, plain_val, cond_true, cond_false,
    aOp_move, aOp_assign, aOp_pick, aOp_build, aOp_load, aOp_store, aOp_nilCheck, aOp_binOp, aOp_unOp, aOp_makeFunc, aOp_slice, aOp_fieldAddr, aOp_field, aOp_indexAddr, aOp_index, aOp_lookup, aOp_mapUpdate, aOp_range, aOp_entry, aOp_extract, aOp_call, aOp_alloc, aOp_box, aOp_makeMap, aOp_buildSlice, aInvoke_func,
    nbeq, nble, nblt, cond_dec, decide_true, decide_false, decide_eq_true_eq, Bool.false_eq_true, Bool.and_true, Bool.true_and, Bool.not_true, Bool.not_false, bq_t, bq_f, ev, evs, evPairs, evOpt, closed, flat, tget_put, Nat.reduceEqDiff, Nat.reduceAdd, Nat.reduceMul, Nat.reduceSub, Nat.reduceLT, Nat.reduceLeDiff, Nat.reduceBEq, reduceIte, if_true, if_false, reduceCtorEq, nth, aCall, aEnter, notYield, aNilCheck, aLoad, partV, isAggD, aFieldAddr, aField, aExtract, b_add, b_sub, b_mul, b_xor, b_eql, b_neq, b_lss, b_leq, b_gtr, b_geq, b_shr, Option.isNone, aBuiltin,
    List.length_cons, List.length_nil, true_implies, false_implies, and_true, true_and, implies_true, forall_const, List.append_nil, List.cons_append, List.nil_append, ASt.get_set, ASt.get_new, ASt.next_set, ASt.next_new, Nat.zero_add, Nat.add_zero, eq_self, ctor_self, ti63, t63_desc, t63_size, ti25, t25_desc, ti22, t22_desc, t22_size, ti59, t59_desc, t59_size, ti60, t60_desc, t60_size, ti61, t61_desc, t61_size, ti3, t3_desc, t3_size, ti40, t40_desc, t40_size, ti33, t33_desc, t33_size, ti9, t9_desc, t9_size, wrow_now, wrow_all, eqnil25, fn17, fn26, fn27, fn28, fn29, fn38, fn39, fn12, fn14, fn15, wti, wfn, wbin, wbox, wlen, wix, wcv, wbs, wapp, wst, widx, aOp_convert, fc35, fc53, fc29, qc35, qc53, qc29, cv35, cv53, fn9]
      refine CallT.mono alive_spec ?_
      rintro _ _ ⟨rfl, rfl⟩
      simp only [oneW_next, tg_eq, tgN_eq, brW_true, brW_false, c_skip, c_ret, c_exit, c_seq, c_cond, condW_b, c_block, c_scope, c_region, c_drawn, c_loop, onw_n, onw_r, onw_e, outb_e, outb_o, outb_n, outb_r, putW_some, putW_none, opsW_arr, opsW_nil, opsW_cons, wanted_none, wanted_some, guardB_some, oneW_next, oneW_move, oneW_assign, oneW_pick, oneW_build, oneW_load, oneW_store, oneW_nilCheck, oneW_binOp, oneW_unOp, oneW_makeFunc, oneW_slice, oneW_fieldAddr, oneW_field, oneW_indexAddr, oneW_index, oneW_lookup, oneW_mapUpdate, oneW_range, oneW_entry, oneW_extract, oneW_call, oneW_alloc, oneW_box, oneW_makeMap, oneW_buildSlice, oneW_convert, Hands, handsV, resultsV, oneOrTuple, argsT, arW_val, ofVal_some, plain_val, cond_true, cond_false,
    aOp_move, aOp_assign, aOp_pick, aOp_build, aOp_load, aOp_store, aOp_nilCheck, aOp_binOp, aOp_unOp, aOp_makeFunc, aOp_slice, aOp_fieldAddr, aOp_field, aOp_indexAddr, aOp_index, aOp_lookup, aOp_mapUpdate, aOp_range, aOp_entry, aOp_extract, aOp_call, aOp_alloc, aOp_box, aOp_makeMap, aOp_buildSlice, aInvoke_func,
    nbeq, nble, nblt, cond_dec, decide_true, decide_false, decide_eq_true_eq, Bool.false_eq_true, Bool.and_true, Bool.true_and, Bool.not_true, Bool.not_false, bq_t, bq_f, ev, evs, evPairs, evOpt, closed, flat, tget_put, Nat.reduceEqDiff, Nat.reduceAdd, Nat.reduceMul, Nat.reduceSub, Nat.reduceLT, Nat.reduceLeDiff, Nat.reduceBEq, reduceIte, if_true, if_false, reduceCtorEq, nth, aCall, aEnter, notYield, aNilCheck, aLoad, partV, isAggD, aFieldAddr, aField, aExtract, b_add, b_sub, b_mul, b_xor, b_eql, b_neq, b_lss, b_leq, b_gtr, b_geq, b_shr, Option.isNone, aBuiltin,
    List.length_cons, List.length_nil, true_implies, false_implies, and_true, true_and, implies_true, forall_const, List.append_nil, List.cons_append, List.nil_append, ASt.get_set, ASt.get_new, ASt.next_set, ASt.next_new, Nat.zero_add, Nat.add_zero, eq_self, ctor_self, ti63, t63_desc, t63_size, ti25, t25_desc, ti22, t22_desc, t22_size, ti59, t59_desc, t59_size, ti60, t60_desc, t60_size, ti61, t61_desc, t61_size, ti3, t3_desc, t3_size, ti40, t40_desc, t40_size, ti33, t33_desc, t33_size, ti9, t9_desc, t9_size, wrow_now, wrow_all, eqnil25, fn17, fn26, fn27, fn28, fn29, fn38, fn39, fn12, fn14, fn15, wti, wfn, wbin, wbox, wlen, wix, wcv, wbs, wapp, wst, widx, aOp_convert, fc35, fc53, fc29, qc35, qc53, qc29, cv35, cv53]
end Go.Proofs.Ytpmpclieclcbdaa

/- What a law's arguments hold: numbers, pairs of numbers, scripts in a slice, numbers in a slice. -/
namespace Go.Proofs.Ytpmpclieclcbdaa
open Go Go.AE Go.ChangeShapes Go.WideShapes Go.ChangeAt Go.RowKit Go.Joins Go.Deep

theorem Try.own : ownKnob Try.prog.godebug = none := by kernel_rfl
theorem Try.laidOut : laidOutB Try.prog = true := by kernel_rfl

set_option maxRecDepth 100000
theorem wf_u64 {n : Int} (h : (Lit.int .u64 n).wf = true) : ∃ m : Nat, n = (m : Int) ∧ m < 18446744073709551616 := by
  simp only [Lit.wf, Bool.and_eq_true, decide_eq_true_eq] at h
  have h1 : (0 : Int) ≤ n := h.1
  have h2 : n ≤ 18446744073709551615 := h.2
  exact ⟨n.toNat, by omega, by omega⟩
theorem trod_u64 {H : Type} {enc : TypeId × Value → H} {w : World} {base : Nat} {spare : Nat → Bool} {held : Bool} {fuel : Nat} {cs : List Value} {x : DataW H × List MemPlace} (h : DataW.trod enc Try.prog w base spare held fuel 22 cs = some x) : ∃ m : Nat, cs = [.int .u64 (m : Int)] ∧ m < 18446744073709551616 := by
  obtain ⟨n, rfl, _, hw⟩ := DataW.trod_int Try.underlying22 h
  obtain ⟨m, rfl, hm⟩ := wf_u64 hw
  exact ⟨m, rfl, hm⟩

instance : Inhabited ActD := ⟨⟨0, ByteArray.empty, 0, 0⟩⟩
def acell (y : ActD) : List Value := [.int .i64 y.kind, .string y.name, .int .u64 (y.at_ : Int), .int .u64 (y.by_ : Int)]
theorem acells_at : ∀ {acts : List ActD} {i : Nat} {v : Value}, (acells acts)[i]? = some v → ∃ q y r, acts[q]? = some y ∧ r < 4 ∧ i = q * 4 + r ∧ (acell y)[r]? = some v
  | [], i, v, h => by simp [acells] at h
  | y :: l, 0, v, h => ⟨0, y, 0, rfl, by omega, rfl, h⟩
  | y :: l, 1, v, h => ⟨0, y, 1, rfl, by omega, rfl, h⟩
  | y :: l, 2, v, h => ⟨0, y, 2, rfl, by omega, rfl, h⟩
  | y :: l, 3, v, h => ⟨0, y, 3, rfl, by omega, rfl, h⟩
  | y :: l, i + 4, v, h => by
    obtain ⟨q, z, r, h1, h2, h3, h4⟩ := acells_at (acts := l) (i := i) (v := v) h
    exact ⟨q + 1, z, r, by simpa using h1, h2, by omega, h4⟩

section
variable {H : Type} {enc : TypeId × Value → H} {w : World} {base : Nat} {spare : Nat → Bool} {held : Bool}

/-- A script. -/
theorem open_acts {fuel : Nat} {cs : List Value} {x : DataW H × List MemPlace} (h : DataW.trod enc Try.prog w base spare held fuel 37 cs = some x) :
    cs = [.slice none 0 0] ∨ ∃ (a : Addr) (len cap : Nat) (acts : List ActD), cs = [.slice (some a) len cap] ∧ cap ≤ maxLen ∧ acts.length = len ∧ (∀ y ∈ acts, y.at_ < 18446744073709551616 ∧ y.by_ < 18446744073709551616) ∧
      ∀ i y, acts[i]? = some y → ∀ r v, (acell y)[r]? = some v → w.cell? (a.add (i * 4 + r)) = some v := by
  rcases open_slice Try.underlying37 h with ⟨h0, _⟩ | ⟨a, len, cap, m, n, D, Pl, rfl, _, hl, hcap, hm, _, hx⟩
  · exact .inl h0
  right
  have hc : Try.prog.cellsOf 40 = 4 := by kernel_rfl
  rw [hc] at hx
  have hlm : len ≤ m := by rw [hm]; split <;> omega
  have each : ∀ i, i < len → ∃ y : ActD, (y.at_ < 18446744073709551616 ∧ y.by_ < 18446744073709551616) ∧ ∀ r v, (acell y)[r]? = some v → w.cell? (a.add (i * 4 + r)) = some v := by
    intro i hi
    obtain ⟨cs', h1, h2⟩ := hx i (by omega)
    obtain ⟨_, hlen, hcell⟩ := World.cells?_some h1
    match cs', hlen with
    | [c0, c1, c2, c3], _ =>
      obtain ⟨y0, y1, y2, y3, k, _, _, g0, g1, g2, g3⟩ := trod_struct4 Try.underlying40 h2
      have c3' : Try.prog.cellsOf 3 = 1 := by kernel_rfl
      have c9' : Try.prog.cellsOf 9 = 1 := by kernel_rfl
      have c22' : Try.prog.cellsOf 22 = 1 := by kernel_rfl
      simp only [c3', c9', c22', List.drop_succ_cons, List.drop_zero, List.take_succ_cons, List.take_zero] at g0 g1 g2 g3
      obtain ⟨k0, e0, _⟩ := DataW.trod_int Try.underlying3 g0
      obtain ⟨s1, e1, _⟩ := DataW.trod_string Try.underlying9 g1
      obtain ⟨n2, e2, l2⟩ := trod_u64 g2
      obtain ⟨n3, e3, l3⟩ := trod_u64 g3
      cases e0; cases e1; cases e2; cases e3
      refine ⟨⟨k0, s1, n2, n3⟩, ⟨l2, l3⟩, fun r v hr => ?_⟩
      have hr4 : r < 4 := by
        by_cases hlt : r < 4
        · exact hlt
        · rw [List.getElem?_eq_none (by show 4 ≤ r; omega)] at hr
          cases hr
      have := hcell r hr4
      rw [add_add] at this
      rw [this]
      exact hr
  obtain ⟨f, hf⟩ := choose_lt each
  refine ⟨a, len, cap, (List.range len).map f, rfl, hcap, by simp, ?_, ?_⟩
  · intro y hy
    obtain ⟨i, hi, rfl⟩ := List.mem_map.1 hy
    exact (hf i (List.mem_range.1 hi)).1
  · intro i y hy
    rw [List.getElem?_map] at hy
    obtain ⟨j, hj, rfl⟩ := Option.map_eq_some_iff.1 hy
    have hi : i < len := by
      by_cases hlt : i < len
      · exact hlt
      · rw [List.getElem?_eq_none (by simp; omega)] at hj
        cases hj
    have : j = i := by simpa [List.getElem?_range hi] using hj.symm
    subst this
    exact (hf j hi).2

/-- Numbers in a slice. -/
theorem open_u64s {fuel : Nat} {cs : List Value} {x : DataW H × List MemPlace} (h : DataW.trod enc Try.prog w base spare held fuel 23 cs = some x) :
    cs = [.slice none 0 0] ∨ ∃ (a : Addr) (len cap : Nat) (l : List Nat), cs = [.slice (some a) len cap] ∧ cap ≤ maxLen ∧ l.length = len ∧ (∀ y ∈ l, y < 18446744073709551616) ∧
      ∀ (i y : Nat), l[i]? = some y → w.cell? (a.add i) = some (.int .u64 (y : Int)) := by
  rcases open_slice1 Try.underlying23 (by kernel_rfl) h with ⟨h0, _⟩ | ⟨a, len, cap, m, n, V, D, Pl, rfl, _, hl, hcap, hm, _, hx⟩
  · exact .inl h0
  right
  have hlm : len ≤ m := by rw [hm]; split <;> omega
  have each : ∀ i, i < len → ∃ y : Nat, y < 18446744073709551616 ∧ w.cell? (a.add i) = some (.int .u64 (y : Int)) := by
    intro i hi
    obtain ⟨h1, h2⟩ := hx i (by omega)
    obtain ⟨y, e, hy⟩ := trod_u64 h2
    simp only [List.cons.injEq, and_true] at e
    exact ⟨y, hy, by rw [h1, e]⟩
  obtain ⟨f, hf⟩ := choose_lt each
  refine ⟨a, len, cap, (List.range len).map f, rfl, hcap, by simp, ?_, ?_⟩
  · intro y hy
    obtain ⟨i, hi, rfl⟩ := List.mem_map.1 hy
    exact (hf i (List.mem_range.1 hi)).1
  · intro i y hy
    rw [List.getElem?_map] at hy
    obtain ⟨j, hj, rfl⟩ := Option.map_eq_some_iff.1 hy
    have hi : i < len := by
      by_cases hlt : i < len
      · exact hlt
      · rw [List.getElem?_eq_none (by simp; omega)] at hj
        cases hj
    have : j = i := by simpa [List.getElem?_range hi] using hj.symm
    subst this
    exact (hf j hi).2

/-- Two numbers. -/
theorem open_two {v : Value} {d : DataW H} {p : List MemPlace} {base' : Nat} (hv : Value.okWide Try.prog w .any base' 38 v) (h : DataW.Trod enc Try.prog w base spare held 38 v d p) : ∃ b0 b1 : Nat, v = .agg #[.int .u64 (b0 : Int), .int .u64 (b1 : Int)] ∧ b0 < 18446744073709551616 ∧ b1 < 18446744073709551616 := by
  obtain ⟨cs, rfl, hsz, _⟩ : ∃ cs, v = .agg cs ∧ cs.size = Try.prog.cellsOf 38 ∧ Row.okWide Try.prog w .any base' 38 cs := by
    unfold Value.okWide at hv
    rw [Try.underlying38] at hv
    exact hv
  have h2 : Try.prog.cellsOf 38 = 2 := by kernel_rfl
  rw [h2] at hsz
  obtain ⟨l⟩ := cs
  match l, hsz with
  | [c0, c1], _ =>
    obtain ⟨fuel, hf⟩ := h
    have hf : DataW.trod enc Try.prog w base spare held fuel 38 [c0, c1] = some (d, p) := hf
    obtain ⟨xs, m, _, _, _, hxl, hg⟩ := DataW.trod_array Try.underlying38 hf
    have c22 : Try.prog.cellsOf 22 = 1 := by kernel_rfl
    match xs, hxl with
    | [y0, y1], _ =>
      have g0 := hg 0 (by omega)
      have g1 := hg 1 (by omega)
      simp only [c22, Nat.zero_mul, Nat.mul_one, List.drop_succ_cons, List.drop_zero, List.take_succ_cons, List.take_zero] at g0 g1
      obtain ⟨n0, e0, l0⟩ := trod_u64 g0
      obtain ⟨n1, e1, l1⟩ := trod_u64 g1
      cases e0; cases e1
      exact ⟨n0, n1, rfl, l0, l1⟩

/-- A slice that a row hands in lies at a plain place. -/
theorem spot_none {t e : TypeId} {a : Addr} {len cap : Nat} (ht : Try.prog.underlying t = some (.slice e)) (hv : Value.okWide Try.prog w .any base t (.slice (some a) len cap)) : a.spot = none := by
  unfold Value.okWide Cell.okWide Cell.ok at hv
  rw [ht] at hv
  exact hv.2.2.2.1
end

theorem add_plain {b o i : Nat} : (⟨b, o, none⟩ : Addr).add i = ⟨b, o + i, none⟩ := by
  unfold Addr.add
  split
  · rename_i h; subst h; rfl
  · rfl
end Go.Proofs.Ytpmpclieclcbdaa
