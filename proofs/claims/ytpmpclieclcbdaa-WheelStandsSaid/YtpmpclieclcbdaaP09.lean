/- A set's timers in order: the walk. -/
import Derived.Test.YtpmpclieclcbdaaP08
set_option linter.unusedSimpArgs false
set_option linter.unusedVariables false
set_option linter.unusedSectionVars false
namespace Go.Proofs.Ytpmpclieclcbdaa
open Go Go.AE Go.Sort

variable {Z : Go.AE.Road}
set_option maxRecDepth 10000

/-- At most a thousand timers. -/
def Few (M : TM) : Prop := ∃ l : List ByteArray, l.length ≤ 1000 ∧ ∀ k, (M k).isSome = true → k ∈ l
theorem nodup_leG {α : Type} {l : List α} : ∀ {d : List α}, d.Nodup → (∀ x ∈ d, x ∈ l) → d.length ≤ l.length := by
  induction l with
  | nil =>
    intro d _ hs
    cases d with
    | nil => simp
    | cons x d => exact absurd (hs x (by simp)) (by simp)
  | cons y l ih =>
    intro d hd hs
    classical
    by_cases hy : y ∈ d
    · obtain ⟨s, t, rfl⟩ := List.append_of_mem hy
      have hd' : (s ++ t).Nodup ∧ y ∉ s ++ t := by
        have h1 : (s ++ y :: t).Perm (y :: (s ++ t)) := List.perm_middle
        have h2 := (h1.nodup_iff).1 hd
        simp only [List.nodup_cons] at h2
        exact ⟨h2.2, h2.1⟩
      have h1 := ih hd'.1 (fun x hx => by
        rcases List.mem_cons.1 (hs x (by rcases List.mem_append.1 hx with h | h <;> simp [h])) with e | e
        · exact absurd (e ▸ hx) hd'.2
        · exact e)
      simp only [List.length_append, List.length_cons] at h1 ⊢; omega
    · have h1 := ih (d := d) hd (fun x hx => by
        rcases List.mem_cons.1 (hs x hx) with e | e
        · exact absurd (e ▸ hx) hy
        · exact e)
      simp only [List.length_cons]; omega
theorem Few.len {D : TM} (h : Few D) {es : List UE} {ck : Nat} (hok : MapOK es ck) (hg : ∀ k, uget es k = D k) : es.length ≤ 1000 := by
  obtain ⟨l, h1, h2⟩ := h
  have := nodup_leG (d := es.map (·.1)) (l := l) hok.keys (fun k hk => by
    obtain ⟨x, hx, rfl⟩ := List.mem_map.1 hk
    refine h2 _ ?_
    rw [← hg, uget_mem hok.keys hx]; rfl)
  simp only [List.length_map] at this
  omega

theorem build33 {n : ByteArray} {a : Int} : aBuild E0 33 [(0, .string n), (1, .int .u64 a)] = some (.agg #[.string n, .int .u64 a]) := by kernel_rfl
theorem bs30 {n : ByteArray} {a : Int} : aBuildSlice E0 30 1 [(0, .agg #[.string n, .int .u64 a])] = some (.row [.string n, .int .u64 a] 2 false, fun id => .slice (some ⟨id, 0, none⟩) 1 1) := by kernel_rfl

def pr (x : UE) : ByteArray × Nat := (x.1, x.2.1)
/-- The timers so far. -/
def OutS (A : ASt) (T' : Tmps) (A' : ASt) (done : List UE) : Prop :=
  Fr [] A A' ∧ A.next < A'.next ∧ ((done = [] ∧ tget T' 3 = .slice none 0 0) ∨ (done ≠ [] ∧ ∃ b, tget T' 3 = .slice (some ⟨b, 0, none⟩) done.length unk ∧ A'.get b = some (.row (tcells (done.map pr)) 2 true) ∧ A.next < b ∧ b < A'.next))

theorem tcells_snoc (l : List (ByteArray × Nat)) (x : ByteArray × Nat) : tcells (l ++ [x]) = tcells l ++ [.string x.1, .int .u64 (x.2 : Nat)] := by
  induction l with
  | nil => rfl
  | cons y l ih => simp only [List.cons_append, tcells, ih]

theorem sorted_list {D : TM} {ck : Nat} {es done : List UE} (hok : MapOK es ck) (hg : ∀ k, uget es k = D k) (hsub : ∀ x ∈ done, x ∈ es) (hall : ∀ x ∈ es, x ∈ done) (hnd : done.Nodup) : Lists D ((done.map pr).mergeSort fun x y => !(ltOf cmpT) y x) := by
  obtain ⟨hk, hu⟩ := uget_all hok hsub hall hnd
  have hp := List.mergeSort_perm (done.map pr) (fun x y => !(ltOf cmpT) y x)
  refine ⟨fun k a => ?_, ?_⟩
  · rw [hp.mem_iff, List.mem_map, ← hg, ← hu]
    constructor
    · rintro ⟨x, hx, e⟩
      cases e
      exact uget_mem hk hx
    · intro h
      obtain ⟨b, hb⟩ := uget_some h
      exact ⟨_, hb, rfl⟩
  · have h1 := List.pairwise_mergeSort (le := fun x y => !(ltOf cmpT) y x) (fun a b c h1 h2 => by
      simp only [Bool.not_eq_true', ltF] at h1 h2 ⊢
      exact (ltF _ _).1 (swoT.ntrans _ _ _ ((ltF _ _).2 h2) ((ltF _ _).2 h1))) (fun a b => by
      simp only [Bool.or_eq_true, Bool.not_eq_true', ltF]
      by_cases h : tlt b a
      · refine .inr fun h2 => tlt_irr _ (tlt_trans h h2)
      · exact .inl h) (done.map pr)
    have hnodup : (done.map pr).Nodup := by
      rw [List.Nodup, List.pairwise_map] at hk ⊢
      exact hk.imp fun h e => h (congrArg (·.1) e)
    have h2 := (hp.nodup_iff).2 hnodup
    refine (h1.and h2).imp ?_
    rintro a b ⟨h3, h4⟩
    simp only [Bool.not_eq_true', ltF] at h3
    exact Classical.byContradiction fun h5 => h4 (tlt_tri h5 h3)

theorem sorted_spec {A : ASt} {d : Nat} {D : TM} (h : Holds A d D) (hF : Few D) (hd : d < A.next) : CallW Z Try.prog 29 [.map (some d)] A (Srt D A) := by
  refine CallW.of_code E0_ok E0_ro fn29 rfl (n := 22) rfl (rs := [.tmp 2]) rfl (by simp) (codeW_ok E0_ok E0_ro ?_)
  obtain ⟨es, ck, hes, hok, hg⟩ := h
  have hlen := hF.len hok hg
  simp only [oneW_next, tg_eq, tgN_eq, brW_true, brW_false, c_skip, c_ret, c_exit, c_seq, c_cond, condW_b, c_block, c_scope, c_region, c_drawn, c_loop, onw_n, onw_r, onw_e, outb_e, outb_o, outb_n, outb_r, putW_some, putW_none, opsW_arr, opsW_nil, opsW_cons, wanted_none, wanted_some, guardB_some, oneW_next, oneW_move, oneW_assign, oneW_pick, oneW_build, oneW_load, oneW_store, oneW_nilCheck, oneW_binOp, oneW_unOp, oneW_makeFunc, oneW_slice, oneW_fieldAddr, oneW_field, oneW_indexAddr, oneW_index, oneW_lookup, oneW_mapUpdate, oneW_range, oneW_entry, oneW_extract, oneW_call, oneW_alloc, oneW_box, oneW_makeMap, oneW_buildSlice, oneW_convert, Hands, handsV, resultsV, oneOrTuple, argsT, arW_val, ofVal_some, plain_val, cond_true, cond_false,
    aOp_move, aOp_assign, aOp_pick, aOp_build, aOp_load, aOp_store, aOp_nilCheck, aOp_binOp, aOp_unOp, aOp_makeFunc, aOp_slice, aOp_fieldAddr, aOp_field, aOp_indexAddr, aOp_index, aOp_lookup, aOp_mapUpdate, aOp_range, aOp_entry, aOp_extract, aOp_call, aOp_alloc, aOp_box, aOp_makeMap, aOp_buildSlice, aInvoke_func,
    nbeq, nble, nblt, cond_dec, decide_true, decide_false, decide_eq_true_eq, Bool.false_eq_true, Bool.and_true, Bool.true_and, Bool.not_true, Bool.not_false, bq_t, bq_f, ev, evs, evPairs, evOpt, closed, flat, tget_put, Nat.reduceEqDiff, Nat.reduceAdd, Nat.reduceMul, Nat.reduceSub, Nat.reduceLT, Nat.reduceLeDiff, Nat.reduceBEq, reduceIte, if_true, if_false, reduceCtorEq, nth, aCall, aEnter, notYield, aNilCheck, aLoad, partV, isAggD, aFieldAddr, aField, aExtract, b_add, b_sub, b_mul, b_xor, b_eql, b_neq, b_lss, b_leq, b_gtr, b_geq, b_shr, Option.isNone, aBuiltin,
    List.length_cons, List.length_nil, true_implies, false_implies, and_true, true_and, implies_true, forall_const, List.append_nil, List.cons_append, List.nil_append, ASt.get_set, ASt.get_new, ASt.next_set, ASt.next_new, Nat.zero_add, Nat.add_zero, eq_self, ctor_self, ti63, t63_desc, t63_size, ti25, t25_desc, ti22, t22_desc, t22_size, ti59, t59_desc, t59_size, ti60, t60_desc, t60_size, ti61, t61_desc, t61_size, ti3, t3_desc, t3_size, ti40, t40_desc, t40_size, ti33, t33_desc, t33_size, ti9, t9_desc, t9_size, wrow_now, wrow_all, eqnil25, fn17, fn26, fn27, fn28, fn29, fn38, fn39, fn12, fn14, fn15, rangeT hes]
  refine CodeW.mono (Q := fun o => ∃ T' A' done, o = .fr ⟨.exit 0, T', A'⟩ ∧ (∀ x ∈ done, x ∈ es) ∧ (∀ x ∈ es, x ∈ done) ∧ done.Nodup ∧ OutS A T' A' done) ?_ ?_
  · refine CodeW.mapLoop (it := 7) (r := A.next) (m := d) (ck := ck) (l := es) (J := fun done T A' => OutS A T A' done) ?_ ?_ ?_
    · rintro done T A1 hi ⟨f1, nx1, hout⟩
      refine codeW_ok E0_ok E0_ro ?_
      have hit := hi.it
      simp only [oneW_next, tg_eq, tgN_eq, brW_true, brW_false, c_skip, c_ret, c_exit, c_seq, c_cond, condW_b, c_block, c_scope, c_region, c_drawn, c_loop, onw_n, onw_r, onw_e, outb_e, outb_o, outb_n, outb_r, putW_some, putW_none, opsW_arr, opsW_nil, opsW_cons, wanted_none, wanted_some, guardB_some, oneW_next, oneW_move, oneW_assign, oneW_pick, oneW_build, oneW_load, oneW_store, oneW_nilCheck, oneW_binOp, oneW_unOp, oneW_makeFunc, oneW_slice, oneW_fieldAddr, oneW_field, oneW_indexAddr, oneW_index, oneW_lookup, oneW_mapUpdate, oneW_range, oneW_entry, oneW_extract, oneW_call, oneW_alloc, oneW_box, oneW_makeMap, oneW_buildSlice, oneW_convert, Hands, handsV, resultsV, oneOrTuple, argsT, arW_val, ofVal_some, plain_val, cond_true, cond_false,
    aOp_move, aOp_assign, aOp_pick, aOp_build, aOp_load, aOp_store, aOp_nilCheck, aOp_binOp, aOp_unOp, aOp_makeFunc, aOp_slice, aOp_fieldAddr, aOp_field, aOp_indexAddr, aOp_index, aOp_lookup, aOp_mapUpdate, aOp_range, aOp_entry, aOp_extract, aOp_call, aOp_alloc, aOp_box, aOp_makeMap, aOp_buildSlice, aInvoke_func,
    nbeq, nble, nblt, cond_dec, decide_true, decide_false, decide_eq_true_eq, Bool.false_eq_true, Bool.and_true, Bool.true_and, Bool.not_true, Bool.not_false, bq_t, bq_f, ev, evs, evPairs, evOpt, closed, flat, tget_put, Nat.reduceEqDiff, Nat.reduceAdd, Nat.reduceMul, Nat.reduceSub, Nat.reduceLT, Nat.reduceLeDiff, Nat.reduceBEq, reduceIte, if_true, if_false, reduceCtorEq, nth, aCall, aEnter, notYield, aNilCheck, aLoad, partV, isAggD, aFieldAddr, aField, aExtract, b_add, b_sub, b_mul, b_xor, b_eql, b_neq, b_lss, b_leq, b_gtr, b_geq, b_shr, Option.isNone, aBuiltin,
    List.length_cons, List.length_nil, true_implies, false_implies, and_true, true_and, implies_true, forall_const, List.append_nil, List.cons_append, List.nil_append, ASt.get_set, ASt.get_new, ASt.next_set, ASt.next_new, Nat.zero_add, Nat.add_zero, eq_self, ctor_self, ti63, t63_desc, t63_size, ti25, t25_desc, ti22, t22_desc, t22_size, ti59, t59_desc, t59_size, ti60, t60_desc, t60_size, ti61, t61_desc, t61_size, ti3, t3_desc, t3_size, ti40, t40_desc, t40_size, ti33, t33_desc, t33_size, ti9, t9_desc, t9_size, wrow_now, wrow_all, eqnil25, fn17, fn26, fn27, fn28, fn29, fn38, fn39, fn12, fn14, fn15, hit]
      refine nextV_u hok hi.sub hi.iter hi.map (fun x hx hn => ?_) (fun hfin => ?_)
      · have hent := entry_u (A := A1.set A.next (.miter (some d) ck ((done ++ [x]).map (·.2.2)) ck)) (r := A.next) (m := d) hok hx (by rw [ASt.get_set, if_pos rfl]) (by rw [ASt.get_set, if_neg (by omega)]; exact hi.map)
        have hB : ∀ b, (A1.set A.next (.miter (some d) ck ((done ++ [x]).map (·.2.2)) ck)).get b = if b = A.next then some (.miter (some d) ck ((done ++ [x]).map (·.2.2)) ck) else A1.get b := fun b => by rw [ASt.get_set]
        have hBn : (A1.set A.next (.miter (some d) ck ((done ++ [x]).map (·.2.2)) ck)).next = A1.next := rfl
        generalize A1.set A.next (.miter (some d) ck ((done ++ [x]).map (·.2.2)) ck) = B at hent hB hBn ⊢
        have hdl : done.length ≤ 1000 := Nat.le_trans (nodup_le hi.nodup hi.sub) hlen
        have hxr : (B.new (.row [.string x.1, .int .u64 (x.2.1 : Nat)] 2 false)).get B.next = some (.row [.string x.1, .int .u64 (x.2.1 : Nat)] 2 false) := by rw [ASt.get_new, if_pos rfl]
        rcases hout with ⟨rfl, u3⟩ | ⟨hne, b, u3, hb, hb1, hb2⟩
        · have hap := app_nil hxr
          simp only [oneW_next, tg_eq, tgN_eq, brW_true, brW_false, c_skip, c_ret, c_exit, c_seq, c_cond, condW_b, c_block, c_scope, c_region, c_drawn, c_loop, onw_n, onw_r, onw_e, outb_e, outb_o, outb_n, outb_r, putW_some, putW_none, opsW_arr, opsW_nil, opsW_cons, wanted_none, wanted_some, guardB_some, oneW_next, oneW_move, oneW_assign, oneW_pick, oneW_build, oneW_load, oneW_store, oneW_nilCheck, oneW_binOp, oneW_unOp, oneW_makeFunc, oneW_slice, oneW_fieldAddr, oneW_field, oneW_indexAddr, oneW_index, oneW_lookup, oneW_mapUpdate, oneW_range, oneW_entry, oneW_extract, oneW_call, oneW_alloc, oneW_box, oneW_makeMap, oneW_buildSlice, oneW_convert, Hands, handsV, resultsV, oneOrTuple, argsT, arW_val, ofVal_some, plain_val, cond_true, cond_false,
    aOp_move, aOp_assign, aOp_pick, aOp_build, aOp_load, aOp_store, aOp_nilCheck, aOp_binOp, aOp_unOp, aOp_makeFunc, aOp_slice, aOp_fieldAddr, aOp_field, aOp_indexAddr, aOp_index, aOp_lookup, aOp_mapUpdate, aOp_range, aOp_entry, aOp_extract, aOp_call, aOp_alloc, aOp_box, aOp_makeMap, aOp_buildSlice, aInvoke_func,
    nbeq, nble, nblt, cond_dec, decide_true, decide_false, decide_eq_true_eq, Bool.false_eq_true, Bool.and_true, Bool.true_and, Bool.not_true, Bool.not_false, bq_t, bq_f, ev, evs, evPairs, evOpt, closed, flat, tget_put, Nat.reduceEqDiff, Nat.reduceAdd, Nat.reduceMul, Nat.reduceSub, Nat.reduceLT, Nat.reduceLeDiff, Nat.reduceBEq, reduceIte, if_true, if_false, reduceCtorEq, nth, aCall, aEnter, notYield, aNilCheck, aLoad, partV, isAggD, aFieldAddr, aField, aExtract, b_add, b_sub, b_mul, b_xor, b_eql, b_neq, b_lss, b_leq, b_gtr, b_geq, b_shr, Option.isNone, aBuiltin,
    List.length_cons, List.length_nil, true_implies, false_implies, and_true, true_and, implies_true, forall_const, List.append_nil, List.cons_append, List.nil_append, ASt.get_set, ASt.get_new, ASt.next_set, ASt.next_new, Nat.zero_add, Nat.add_zero, eq_self, ctor_self, ti63, t63_desc, t63_size, ti25, t25_desc, ti22, t22_desc, t22_size, ti59, t59_desc, t59_size, ti60, t60_desc, t60_size, ti61, t61_desc, t61_size, ti3, t3_desc, t3_size, ti40, t40_desc, t40_size, ti33, t33_desc, t33_size, ti9, t9_desc, t9_size, wrow_now, wrow_all, eqnil25, fn17, fn26, fn27, fn28, fn29, fn38, fn39, fn12, fn14, fn15, hit, hent, u3, build33, bs30, hap]
          have hS : ∀ c, c < B.next → ((B.new (.row [.string x.1, .int .u64 (x.2.1 : Nat)] 2 false)).new (.row [.string x.1, .int .u64 (x.2.1 : Nat)] 2 true)).get c = B.get c := fun c hc => by
            rw [ASt.get_new, if_neg (by rw [ASt.next_new]; omega), ASt.get_new, if_neg (by omega)]
          refine ⟨x, hx, hn, hi.step hx hn (by simp only [tget_put, Nat.reduceEqDiff, if_false, reduceIte]) ?_ ?_, ⟨?_, fun c hc hn => ?_⟩, ?_, .inr ⟨by simp, B.next + 1, ?_, ?_, ?_, ?_⟩⟩
          · rw [hS _ (by omega), hB, if_pos rfl]
          · rw [hS _ (by omega), hB, if_neg (by omega)]
          · have := f1.next; simp only [ASt.next_new]; omega
          · have := f1.next; rw [hS _ (by omega), hB, if_neg (by omega)]; exact f1.get c hc hn
          · simp only [ASt.next_new]; omega
          · simp only [tget_put, Nat.reduceEqDiff, if_false, if_true, reduceIte]; rfl
          · rw [ASt.get_new, if_pos (by rw [ASt.next_new])]; rfl
          · omega
          · simp only [ASt.next_new]; omega
        · have hb1' : (B.new (.row [.string x.1, .int .u64 (x.2.1 : Nat)] 2 false)).get b = some (.row (tcells (done.map pr)) 2 true) := by
            rw [ASt.get_new, if_neg (by omega), hB, if_neg (by omega)]; exact hb
          have hap := app_row hxr hb1' (by rw [tcells_len, List.length_map]) (by omega)
          simp only [oneW_next, tg_eq, tgN_eq, brW_true, brW_false, c_skip, c_ret, c_exit, c_seq, c_cond, condW_b, c_block, c_scope, c_region, c_drawn, c_loop, onw_n, onw_r, onw_e, outb_e, outb_o, outb_n, outb_r, putW_some, putW_none, opsW_arr, opsW_nil, opsW_cons, wanted_none, wanted_some, guardB_some, oneW_next, oneW_move, oneW_assign, oneW_pick, oneW_build, oneW_load, oneW_store, oneW_nilCheck, oneW_binOp, oneW_unOp, oneW_makeFunc, oneW_slice, oneW_fieldAddr, oneW_field, oneW_indexAddr, oneW_index, oneW_lookup, oneW_mapUpdate, oneW_range, oneW_entry, oneW_extract, oneW_call, oneW_alloc, oneW_box, oneW_makeMap, oneW_buildSlice, oneW_convert, Hands, handsV, resultsV, oneOrTuple, argsT, arW_val, ofVal_some, plain_val, cond_true, cond_false,
    aOp_move, aOp_assign, aOp_pick, aOp_build, aOp_load, aOp_store, aOp_nilCheck, aOp_binOp, aOp_unOp, aOp_makeFunc, aOp_slice, aOp_fieldAddr, aOp_field, aOp_indexAddr, aOp_index, aOp_lookup, aOp_mapUpdate, aOp_range, aOp_entry, aOp_extract, aOp_call, aOp_alloc, aOp_box, aOp_makeMap, aOp_buildSlice, aInvoke_func,
    nbeq, nble, nblt, cond_dec, decide_true, decide_false, decide_eq_true_eq, Bool.false_eq_true, Bool.and_true, Bool.true_and, Bool.not_true, Bool.not_false, bq_t, bq_f, ev, evs, evPairs, evOpt, closed, flat, tget_put, Nat.reduceEqDiff, Nat.reduceAdd, Nat.reduceMul, Nat.reduceSub, Nat.reduceLT, Nat.reduceLeDiff, Nat.reduceBEq, reduceIte, if_true, if_false, reduceCtorEq, nth, aCall, aEnter, notYield, aNilCheck, aLoad, partV, isAggD, aFieldAddr, aField, aExtract, b_add, b_sub, b_mul, b_xor, b_eql, b_neq, b_lss, b_leq, b_gtr, b_geq, b_shr, Option.isNone, aBuiltin,
    List.length_cons, List.length_nil, true_implies, false_implies, and_true, true_and, implies_true, forall_const, List.append_nil, List.cons_append, List.nil_append, ASt.get_set, ASt.get_new, ASt.next_set, ASt.next_new, Nat.zero_add, Nat.add_zero, eq_self, ctor_self, ti63, t63_desc, t63_size, ti25, t25_desc, ti22, t22_desc, t22_size, ti59, t59_desc, t59_size, ti60, t60_desc, t60_size, ti61, t61_desc, t61_size, ti3, t3_desc, t3_size, ti40, t40_desc, t40_size, ti33, t33_desc, t33_size, ti9, t9_desc, t9_size, wrow_now, wrow_all, eqnil25, fn17, fn26, fn27, fn28, fn29, fn38, fn39, fn12, fn14, fn15, hit, hent, u3, build33, bs30, hap]
          have hS : ∀ c, c < B.next → c ≠ b → (((B.new (.row [.string x.1, .int .u64 (x.2.1 : Nat)] 2 false)).set b (.row [] 2 false)).new (.row (tcells (done.map pr) ++ [.string x.1, .int .u64 (x.2.1 : Nat)]) 2 true)).get c = B.get c := fun c hc hcb => by
            rw [ASt.get_new, if_neg (by rw [ASt.next_set, ASt.next_new]; omega), ASt.get_set, if_neg hcb, ASt.get_new, if_neg (by omega)]
          refine ⟨x, hx, hn, hi.step hx hn (by simp only [tget_put, Nat.reduceEqDiff, if_false, reduceIte]) ?_ ?_, ⟨?_, fun c hc hn => ?_⟩, ?_, .inr ⟨by simp, B.next + 1, ?_, ?_, ?_, ?_⟩⟩
          · rw [hS _ (by omega) (by omega), hB, if_pos rfl]
          · rw [hS _ (by omega) (by omega), hB, if_neg (by omega)]
          · have := f1.next; simp only [ASt.next_new, ASt.next_set]; omega
          · have := f1.next; rw [hS _ (by omega) (by omega), hB, if_neg (by omega)]; exact f1.get c hc hn
          · simp only [ASt.next_new, ASt.next_set]; omega
          · simp only [tget_put, Nat.reduceEqDiff, if_false, if_true, reduceIte, List.length_append, List.length_cons, List.length_nil]
          · rw [ASt.get_new, if_pos (by rw [ASt.next_set, ASt.next_new]), List.map_append, List.map_cons, List.map_nil, tcells_snoc]; rfl
          · omega
          · simp only [ASt.next_new, ASt.next_set]; omega
      · simp only [oneW_next, tg_eq, tgN_eq, brW_true, brW_false, c_skip, c_ret, c_exit, c_seq, c_cond, condW_b, c_block, c_scope, c_region, c_drawn, c_loop, onw_n, onw_r, onw_e, outb_e, outb_o, outb_n, outb_r, putW_some, putW_none, opsW_arr, opsW_nil, opsW_cons, wanted_none, wanted_some, guardB_some, oneW_next, oneW_move, oneW_assign, oneW_pick, oneW_build, oneW_load, oneW_store, oneW_nilCheck, oneW_binOp, oneW_unOp, oneW_makeFunc, oneW_slice, oneW_fieldAddr, oneW_field, oneW_indexAddr, oneW_index, oneW_lookup, oneW_mapUpdate, oneW_range, oneW_entry, oneW_extract, oneW_call, oneW_alloc, oneW_box, oneW_makeMap, oneW_buildSlice, oneW_convert, Hands, handsV, resultsV, oneOrTuple, argsT, arW_val, ofVal_some, plain_val, cond_true, cond_false,
    aOp_move, aOp_assign, aOp_pick, aOp_build, aOp_load, aOp_store, aOp_nilCheck, aOp_binOp, aOp_unOp, aOp_makeFunc, aOp_slice, aOp_fieldAddr, aOp_field, aOp_indexAddr, aOp_index, aOp_lookup, aOp_mapUpdate, aOp_range, aOp_entry, aOp_extract, aOp_call, aOp_alloc, aOp_box, aOp_makeMap, aOp_buildSlice, aInvoke_func,
    nbeq, nble, nblt, cond_dec, decide_true, decide_false, decide_eq_true_eq, Bool.false_eq_true, Bool.and_true, Bool.true_and, Bool.not_true, Bool.not_false, bq_t, bq_f, ev, evs, evPairs, evOpt, closed, flat, tget_put, Nat.reduceEqDiff, Nat.reduceAdd, Nat.reduceMul, Nat.reduceSub, Nat.reduceLT, Nat.reduceLeDiff, Nat.reduceBEq, reduceIte, if_true, if_false, reduceCtorEq, nth, aCall, aEnter, notYield, aNilCheck, aLoad, partV, isAggD, aFieldAddr, aField, aExtract, b_add, b_sub, b_mul, b_xor, b_eql, b_neq, b_lss, b_leq, b_gtr, b_geq, b_shr, Option.isNone, aBuiltin,
    List.length_cons, List.length_nil, true_implies, false_implies, and_true, true_and, implies_true, forall_const, List.append_nil, List.cons_append, List.nil_append, ASt.get_set, ASt.get_new, ASt.next_set, ASt.next_new, Nat.zero_add, Nat.add_zero, eq_self, ctor_self, ti63, t63_desc, t63_size, ti25, t25_desc, ti22, t22_desc, t22_size, ti59, t59_desc, t59_size, ti60, t60_desc, t60_size, ti61, t61_desc, t61_size, ti3, t3_desc, t3_size, ti40, t40_desc, t40_size, ti33, t33_desc, t33_size, ti9, t9_desc, t9_size, wrow_now, wrow_all, eqnil25, fn17, fn26, fn27, fn28, fn29, fn38, fn39, fn12, fn14, fn15]
        refine ⟨_, _, done, rfl, hi.sub, hfin, hi.nodup, f1, nx1, ?_⟩
        simpa only [tget_put, Nat.reduceEqDiff, if_false, reduceIte] using hout
    · refine ⟨by simp only [tget_put, Nat.reduceEqDiff, if_false, if_true, reduceIte], by rw [ASt.get_new, if_pos rfl]; rfl, by rw [ASt.get_new, if_neg (by omega)]; exact hes, by simp, .nil⟩
    · refine ⟨⟨Nat.le_succ _, fun b hb hn => by rw [ASt.get_new, if_neg (by omega)]⟩, Nat.lt_succ_self _, .inl ⟨rfl, ?_⟩⟩
      simp only [tget_put, Nat.reduceEqDiff, if_false, if_true, reduceIte]
  · rintro o ⟨T', A', done, rfl, hsub, hall, hnd, f1, nx1, hout⟩
    have hL := sorted_list hok hg hsub hall hnd
    rcases hout with ⟨rfl, u3⟩ | ⟨hne, b, u3, hb, hb1, hb2⟩
    · simp only [oneW_next, tg_eq, tgN_eq, brW_true, brW_false, c_skip, c_ret, c_exit, c_seq, c_cond, condW_b, c_block, c_scope, c_region, c_drawn, c_loop, onw_n, onw_r, onw_e, outb_e, outb_o, outb_n, outb_r, putW_some, putW_none, opsW_arr, opsW_nil, opsW_cons, wanted_none, wanted_some, guardB_some, oneW_next, oneW_move, oneW_assign, oneW_pick, oneW_build, oneW_load, oneW_store, oneW_nilCheck, oneW_binOp, oneW_unOp, oneW_makeFunc, oneW_slice, oneW_fieldAddr, oneW_field, oneW_indexAddr, oneW_index, oneW_lookup, oneW_mapUpdate, oneW_range, oneW_entry, oneW_extract, oneW_call, oneW_alloc, oneW_box, oneW_makeMap, oneW_buildSlice, oneW_convert, Hands, handsV, resultsV, oneOrTuple, argsT, arW_val, ofVal_some, plain_val, cond_true, cond_false,
    aOp_move, aOp_assign, aOp_pick, aOp_build, aOp_load, aOp_store, aOp_nilCheck, aOp_binOp, aOp_unOp, aOp_makeFunc, aOp_slice, aOp_fieldAddr, aOp_field, aOp_indexAddr, aOp_index, aOp_lookup, aOp_mapUpdate, aOp_range, aOp_entry, aOp_extract, aOp_call, aOp_alloc, aOp_box, aOp_makeMap, aOp_buildSlice, aInvoke_func,
    nbeq, nble, nblt, cond_dec, decide_true, decide_false, decide_eq_true_eq, Bool.false_eq_true, Bool.and_true, Bool.true_and, Bool.not_true, Bool.not_false, bq_t, bq_f, ev, evs, evPairs, evOpt, closed, flat, tget_put, Nat.reduceEqDiff, Nat.reduceAdd, Nat.reduceMul, Nat.reduceSub, Nat.reduceLT, Nat.reduceLeDiff, Nat.reduceBEq, reduceIte, if_true, if_false, reduceCtorEq, nth, aCall, aEnter, notYield, aNilCheck, aLoad, partV, isAggD, aFieldAddr, aField, aExtract, b_add, b_sub, b_mul, b_xor, b_eql, b_neq, b_lss, b_leq, b_gtr, b_geq, b_shr, Option.isNone, aBuiltin,
    List.length_cons, List.length_nil, true_implies, false_implies, and_true, true_and, implies_true, forall_const, List.append_nil, List.cons_append, List.nil_append, ASt.get_set, ASt.get_new, ASt.next_set, ASt.next_new, Nat.zero_add, Nat.add_zero, eq_self, ctor_self, ti63, t63_desc, t63_size, ti25, t25_desc, ti22, t22_desc, t22_size, ti59, t59_desc, t59_size, ti60, t60_desc, t60_size, ti61, t61_desc, t61_size, ti3, t3_desc, t3_size, ti40, t40_desc, t40_size, ti33, t33_desc, t33_size, ti9, t9_desc, t9_size, wrow_now, wrow_all, eqnil25, fn17, fn26, fn27, fn28, fn29, fn38, fn39, fn12, fn14, fn15, u3]
      refine CallT.mono sort_none ?_
      rintro v B rfl
      simp only [oneW_next, tg_eq, tgN_eq, brW_true, brW_false, c_skip, c_ret, c_exit, c_seq, c_cond, condW_b, c_block, c_scope, c_region, c_drawn, c_loop, onw_n, onw_r, onw_e, outb_e, outb_o, outb_n, outb_r, putW_some, putW_none, opsW_arr, opsW_nil, opsW_cons, wanted_none, wanted_some, guardB_some, oneW_next, oneW_move, oneW_assign, oneW_pick, oneW_build, oneW_load, oneW_store, oneW_nilCheck, oneW_binOp, oneW_unOp, oneW_makeFunc, oneW_slice, oneW_fieldAddr, oneW_field, oneW_indexAddr, oneW_index, oneW_lookup, oneW_mapUpdate, oneW_range, oneW_entry, oneW_extract, oneW_call, oneW_alloc, oneW_box, oneW_makeMap, oneW_buildSlice, oneW_convert, Hands, handsV, resultsV, oneOrTuple, argsT, arW_val, ofVal_some, plain_val, cond_true, cond_false,
    aOp_move, aOp_assign, aOp_pick, aOp_build, aOp_load, aOp_store, aOp_nilCheck, aOp_binOp, aOp_unOp, aOp_makeFunc, aOp_slice, aOp_fieldAddr, aOp_field, aOp_indexAddr, aOp_index, aOp_lookup, aOp_mapUpdate, aOp_range, aOp_entry, aOp_extract, aOp_call, aOp_alloc, aOp_box, aOp_makeMap, aOp_buildSlice, aInvoke_func,
    nbeq, nble, nblt, cond_dec, decide_true, decide_false, decide_eq_true_eq, Bool.false_eq_true, Bool.and_true, Bool.true_and, Bool.not_true, Bool.not_false, bq_t, bq_f, ev, evs, evPairs, evOpt, closed, flat, tget_put, Nat.reduceEqDiff, Nat.reduceAdd, Nat.reduceMul, Nat.reduceSub, Nat.reduceLT, Nat.reduceLeDiff, Nat.reduceBEq, reduceIte, if_true, if_false, reduceCtorEq, nth, aCall, aEnter, notYield, aNilCheck, aLoad, partV, isAggD, aFieldAddr, aField, aExtract, b_add, b_sub, b_mul, b_xor, b_eql, b_neq, b_lss, b_leq, b_gtr, b_geq, b_shr, Option.isNone, aBuiltin,
    List.length_cons, List.length_nil, true_implies, false_implies, and_true, true_and, implies_true, forall_const, List.append_nil, List.cons_append, List.nil_append, ASt.get_set, ASt.get_new, ASt.next_set, ASt.next_new, Nat.zero_add, Nat.add_zero, eq_self, ctor_self, ti63, t63_desc, t63_size, ti25, t25_desc, ti22, t22_desc, t22_size, ti59, t59_desc, t59_size, ti60, t60_desc, t60_size, ti61, t61_desc, t61_size, ti3, t3_desc, t3_size, ti40, t40_desc, t40_size, ti33, t33_desc, t33_size, ti9, t9_desc, t9_size, wrow_now, wrow_all, eqnil25, fn17, fn26, fn27, fn28, fn29, fn38, fn39, fn12, fn14, fn15, u3]
      exact ⟨_, hL, .inl ⟨by simp, rfl⟩, f1⟩
    · simp only [oneW_next, tg_eq, tgN_eq, brW_true, brW_false, c_skip, c_ret, c_exit, c_seq, c_cond, condW_b, c_block, c_scope, c_region, c_drawn, c_loop, onw_n, onw_r, onw_e, outb_e, outb_o, outb_n, outb_r, putW_some, putW_none, opsW_arr, opsW_nil, opsW_cons, wanted_none, wanted_some, guardB_some, oneW_next, oneW_move, oneW_assign, oneW_pick, oneW_build, oneW_load, oneW_store, oneW_nilCheck, oneW_binOp, oneW_unOp, oneW_makeFunc, oneW_slice, oneW_fieldAddr, oneW_field, oneW_indexAddr, oneW_index, oneW_lookup, oneW_mapUpdate, oneW_range, oneW_entry, oneW_extract, oneW_call, oneW_alloc, oneW_box, oneW_makeMap, oneW_buildSlice, oneW_convert, Hands, handsV, resultsV, oneOrTuple, argsT, arW_val, ofVal_some, plain_val, cond_true, cond_false,
    aOp_move, aOp_assign, aOp_pick, aOp_build, aOp_load, aOp_store, aOp_nilCheck, aOp_binOp, aOp_unOp, aOp_makeFunc, aOp_slice, aOp_fieldAddr, aOp_field, aOp_indexAddr, aOp_index, aOp_lookup, aOp_mapUpdate, aOp_range, aOp_entry, aOp_extract, aOp_call, aOp_alloc, aOp_box, aOp_makeMap, aOp_buildSlice, aInvoke_func,
    nbeq, nble, nblt, cond_dec, decide_true, decide_false, decide_eq_true_eq, Bool.false_eq_true, Bool.and_true, Bool.true_and, Bool.not_true, Bool.not_false, bq_t, bq_f, ev, evs, evPairs, evOpt, closed, flat, tget_put, Nat.reduceEqDiff, Nat.reduceAdd, Nat.reduceMul, Nat.reduceSub, Nat.reduceLT, Nat.reduceLeDiff, Nat.reduceBEq, reduceIte, if_true, if_false, reduceCtorEq, nth, aCall, aEnter, notYield, aNilCheck, aLoad, partV, isAggD, aFieldAddr, aField, aExtract, b_add, b_sub, b_mul, b_xor, b_eql, b_neq, b_lss, b_leq, b_gtr, b_geq, b_shr, Option.isNone, aBuiltin,
    List.length_cons, List.length_nil, true_implies, false_implies, and_true, true_and, implies_true, forall_const, List.append_nil, List.cons_append, List.nil_append, ASt.get_set, ASt.get_new, ASt.next_set, ASt.next_new, Nat.zero_add, Nat.add_zero, eq_self, ctor_self, ti63, t63_desc, t63_size, ti25, t25_desc, ti22, t22_desc, t22_size, ti59, t59_desc, t59_size, ti60, t60_desc, t60_size, ti61, t61_desc, t61_size, ti3, t3_desc, t3_size, ti40, t40_desc, t40_size, ti33, t33_desc, t33_size, ti9, t9_desc, t9_size, wrow_now, wrow_all, eqnil25, fn17, fn26, fn27, fn28, fn29, fn38, fn39, fn12, fn14, fn15, u3]
      have hb' : A'.get b = some (.row (tcells (done.map pr) ++ []) 2 true) := by rw [List.append_nil]; exact hb
      have hdl : done.length ≤ 1000 := Nat.le_trans (nodup_le hnd hsub) hlen
      have hs := sort_spec (Z := Z) (cap := unk) hb' (by simpa using hne) (by simp; omega)
      rw [List.length_map] at hs
      refine CallT.mono hs ?_
      rintro v B rfl
      simp only [oneW_next, tg_eq, tgN_eq, brW_true, brW_false, c_skip, c_ret, c_exit, c_seq, c_cond, condW_b, c_block, c_scope, c_region, c_drawn, c_loop, onw_n, onw_r, onw_e, outb_e, outb_o, outb_n, outb_r, putW_some, putW_none, opsW_arr, opsW_nil, opsW_cons, wanted_none, wanted_some, guardB_some, oneW_next, oneW_move, oneW_assign, oneW_pick, oneW_build, oneW_load, oneW_store, oneW_nilCheck, oneW_binOp, oneW_unOp, oneW_makeFunc, oneW_slice, oneW_fieldAddr, oneW_field, oneW_indexAddr, oneW_index, oneW_lookup, oneW_mapUpdate, oneW_range, oneW_entry, oneW_extract, oneW_call, oneW_alloc, oneW_box, oneW_makeMap, oneW_buildSlice, oneW_convert, Hands, handsV, resultsV, oneOrTuple, argsT, arW_val, ofVal_some, plain_val, cond_true, cond_false,
    aOp_move, aOp_assign, aOp_pick, aOp_build, aOp_load, aOp_store, aOp_nilCheck, aOp_binOp, aOp_unOp, aOp_makeFunc, aOp_slice, aOp_fieldAddr, aOp_field, aOp_indexAddr, aOp_index, aOp_lookup, aOp_mapUpdate, aOp_range, aOp_entry, aOp_extract, aOp_call, aOp_alloc, aOp_box, aOp_makeMap, aOp_buildSlice, aInvoke_func,
    nbeq, nble, nblt, cond_dec, decide_true, decide_false, decide_eq_true_eq, Bool.false_eq_true, Bool.and_true, Bool.true_and, Bool.not_true, Bool.not_false, bq_t, bq_f, ev, evs, evPairs, evOpt, closed, flat, tget_put, Nat.reduceEqDiff, Nat.reduceAdd, Nat.reduceMul, Nat.reduceSub, Nat.reduceLT, Nat.reduceLeDiff, Nat.reduceBEq, reduceIte, if_true, if_false, reduceCtorEq, nth, aCall, aEnter, notYield, aNilCheck, aLoad, partV, isAggD, aFieldAddr, aField, aExtract, b_add, b_sub, b_mul, b_xor, b_eql, b_neq, b_lss, b_leq, b_gtr, b_geq, b_shr, Option.isNone, aBuiltin,
    List.length_cons, List.length_nil, true_implies, false_implies, and_true, true_and, implies_true, forall_const, List.append_nil, List.cons_append, List.nil_append, ASt.get_set, ASt.get_new, ASt.next_set, ASt.next_new, Nat.zero_add, Nat.add_zero, eq_self, ctor_self, ti63, t63_desc, t63_size, ti25, t25_desc, ti22, t22_desc, t22_size, ti59, t59_desc, t59_size, ti60, t60_desc, t60_size, ti61, t61_desc, t61_size, ti3, t3_desc, t3_size, ti40, t40_desc, t40_size, ti33, t33_desc, t33_size, ti9, t9_desc, t9_size, wrow_now, wrow_all, eqnil25, fn17, fn26, fn27, fn28, fn29, fn38, fn39, fn12, fn14, fn15, u3]
      refine ⟨_, hL, .inr ⟨b, unk, [], true, ?_, ?_, by omega, ?_, rfl, rfl, rfl⟩, ⟨f1.next, fun c hc hn => by rw [ASt.get_set, if_neg (by omega)]; exact f1.get c hc hn⟩⟩
      · simp [List.length_mergeSort]
      · rw [ASt.get_set, if_pos rfl]; simp
      · exact hb2
end Go.Proofs.Ytpmpclieclcbdaa

/- The wheel's advance, whole. -/
namespace Go.Proofs.Ytpmpclieclcbdaa
open Go Go.AE Go.Sort

variable {Z : Go.AE.Road}

theorem Few.sub {M D : TM} (h : Few M) (hs : ∀ k a, D k = some a → M k = some a) : Few D := by
  obtain ⟨l, h1, h2⟩ := h
  refine ⟨l, h1, fun k hk => h2 k ?_⟩
  obtain ⟨a, ha⟩ := Option.isSome_iff_exists.1 hk
  rw [hs k a ha]; rfl

theorem advance_spec {A : ASt} {W all now nw : Nat} {ms : List Nat} {M : TM} (h : WheelAt A W all ms now M) (hF : Few M) (hnw : nw < 18446744073709551616) :
    CallW Z Try.prog 13 [.pointer (some ⟨W, 0, none⟩), .int .u64 (nw : Int)] A (fun v A' => if nw < now then v = .slice none 0 0 ∧ WheelAt A' W all ms now M ∧ Fr (W :: all :: ms) A A' else ∃ ts, Lists (fun k => (M k).filter fun a => decide (a ≤ nw)) ts ∧ SliceAt A' A.next v ts ∧ WheelAt A' W all ms nw (fun k => (M k).filter fun a => decide (nw < a)) ∧ Fr (W :: all :: ms) A A') :=
  adv_walk h hnw fun h1 h2 h3 => sorted_spec h1 (hF.sub h2) h3
end Go.Proofs.Ytpmpclieclcbdaa

/- The law's tick: what an act of kind 2 or 5 speaks of. -/
namespace Go.Proofs.Ytpmpclieclcbdaa
open Go Go.AE Go.Sort

variable {Z : Go.AE.Road}
set_option maxRecDepth 10000

def R16 : Tgt → List Value → ASt → (Value → ASt → Prop) → Prop := fun t args A S =>
  (∃ (W now all : Nat) (ms : List Nat), A.get W = some (.row (wrow now all ms) 67 false) ∧ t = .fn 15 ∧ args = [.pointer (some ⟨W, 0, none⟩)] ∧ S = fun v A' => v = .int .u64 (now : Int) ∧ A' = A) ∨
  (∃ n b : Nat, n < 18446744073709551616 ∧ b < 18446744073709551616 ∧ t = .fn 11 ∧ args = [.int .u64 (n : Int), .int .u64 (b : Int)] ∧ S = fun v A' => v = .int .u64 ((lat n b : Nat) : Int) ∧ A' = A)
theorem R16_ok (t args A S) (h : R16 t args A S) : CallT Z Try.prog t args A S := by
  rcases h with ⟨W, now, all, ms, hW, rfl, rfl, rfl⟩ | ⟨n, b, hn, hb, rfl, rfl, rfl⟩
  · exact clock_spec hW
  · exact later_spec hn hb
theorem con15 {W now all : Nat} {ms : List Nat} {A : ASt} {K : Value → ASt → Prop} (hW : A.get W = some (.row (wrow now all ms) 67 false)) (h : K (.int .u64 (now : Int)) A) : conC R16 (.fn 15) [.pointer (some ⟨W, 0, none⟩)] A K := by
  refine ⟨⟨_, .inl ⟨W, now, all, ms, hW, rfl, rfl, rfl⟩⟩, ?_⟩
  rintro S (⟨W', now', all', ms', hW', _, ha, rfl⟩ | ⟨_, _, _, _, ht, _⟩) v A' hv
  · obtain ⟨rfl, rfl⟩ := hv
    simp only [List.cons.injEq, Value.pointer.injEq, Option.some.injEq, Addr.mk.injEq, and_true] at ha
    subst ha
    rw [hW] at hW'
    simp only [Option.some.injEq, AObj.row.injEq, wrow, List.cons.injEq, Value.int.injEq, Int.natCast_inj, true_and, and_true] at hW'
    rw [← hW'.1]
    exact h
  · cases ht
theorem con11 {n b : Nat} (hn : n < 18446744073709551616) (hb : b < 18446744073709551616) {A : ASt} {K : Value → ASt → Prop} (h : K (.int .u64 ((lat n b : Nat) : Int)) A) : conC R16 (.fn 11) [.int .u64 (n : Int), .int .u64 (b : Int)] A K := by
  refine ⟨⟨_, .inr ⟨n, b, hn, hb, rfl, rfl, rfl⟩⟩, ?_⟩
  rintro S (⟨_, _, _, _, _, ht, _⟩ | ⟨n', b', _, _, _, ha, rfl⟩) v A' hv
  · cases ht
  · obtain ⟨rfl, rfl⟩ := hv
    simp only [List.cons.injEq, Value.int.injEq, Int.natCast_inj, and_true, true_and] at ha
    obtain ⟨rfl, rfl⟩ := ha
    exact h

theorem box40 {k a b c : Value} : aBox E0 40 (.agg #[k, a, b, c]) = some (.row [k, a, b, c] 4 false, ptrTo) := by
  simp only [aBox, ti40, t40_size]; rfl
/-- An act's cells. -/
def actV (k : Int) (name : ByteArray) (a b : Nat) : Value := .agg #[.int .i64 k, .string name, .int .u64 (a : Int), .int .u64 (b : Int)]

theorem tick_by {A : ASt} {W now all a b : Nat} {ms : List Nat} {k : Int} {name : ByteArray} (hW : A.get W = some (.row (wrow now all ms) 67 false)) (hWb : W < A.next) (hn : now < 18446744073709551616) (hb : b < 18446744073709551616) (hk : k = 2 ∨ k = 5) :
    CallW Z Try.prog 16 [actV k name a b, .pointer (some ⟨W, 0, none⟩)] A (fun v A' => v = .int .u64 ((lat now b : Nat) : Int) ∧ Fr [] A A') := by
  refine CallW.of_code E0_ok E0_ro fn16 rfl (n := 34) rfl (rs := [.tmp 4]) rfl (by simp) (codeW_ok E0_ok E0_ro ?_)
  unfold actV
  simp only [oneW_next, tg_eq, tgN_eq, brW_true, brW_false, c_skip, c_ret, c_exit, c_seq, c_cond, condW_b, c_block, c_scope, c_region, c_drawn, c_loop, onw_n, onw_r, onw_e, outb_e, outb_o, outb_n, outb_r, putW_some, putW_none, opsW_arr, opsW_nil, opsW_cons, wanted_none, wanted_some, guardB_some, oneW_next, oneW_move, oneW_assign, oneW_pick, oneW_build, oneW_load, oneW_store, oneW_nilCheck, oneW_binOp, oneW_unOp, oneW_makeFunc, oneW_slice, oneW_fieldAddr, oneW_field, oneW_indexAddr, oneW_index, oneW_lookup, oneW_mapUpdate, oneW_range, oneW_entry, oneW_extract, oneW_call, oneW_alloc, oneW_box, oneW_makeMap, oneW_buildSlice, oneW_convert, Hands, handsV, resultsV, oneOrTuple, argsT, arW_val, ofVal_some, plain_val, cond_true, cond_false,
    aOp_move, aOp_assign, aOp_pick, aOp_build, aOp_load, aOp_store, aOp_nilCheck, aOp_binOp, aOp_unOp, aOp_makeFunc, aOp_slice, aOp_fieldAddr, aOp_field, aOp_indexAddr, aOp_index, aOp_lookup, aOp_mapUpdate, aOp_range, aOp_entry, aOp_extract, aOp_call, aOp_alloc, aOp_box, aOp_makeMap, aOp_buildSlice, aInvoke_func,
    nbeq, nble, nblt, cond_dec, decide_true, decide_false, decide_eq_true_eq, Bool.false_eq_true, Bool.and_true, Bool.true_and, Bool.not_true, Bool.not_false, bq_t, bq_f, ev, evs, evPairs, evOpt, closed, flat, tget_put, Nat.reduceEqDiff, Nat.reduceAdd, Nat.reduceMul, Nat.reduceSub, Nat.reduceLT, Nat.reduceLeDiff, Nat.reduceBEq, reduceIte, if_true, if_false, reduceCtorEq, nth, aCall, aEnter, notYield, aNilCheck, aLoad, partV, isAggD, aFieldAddr, aField, aExtract, b_add, b_sub, b_mul, b_xor, b_eql, b_neq, b_lss, b_leq, b_gtr, b_geq, b_shr, Option.isNone, aBuiltin,
    List.length_cons, List.length_nil, true_implies, false_implies, and_true, true_and, implies_true, forall_const, List.append_nil, List.cons_append, List.nil_append, ASt.get_set, ASt.get_new, ASt.next_set, ASt.next_new, Nat.zero_add, Nat.add_zero, eq_self, ctor_self, ti63, t63_desc, t63_size, ti25, t25_desc, ti22, t22_desc, t22_size, ti59, t59_desc, t59_size, ti60, t60_desc, t60_size, ti61, t61_desc, t61_size, ti3, t3_desc, t3_size, ti40, t40_desc, t40_size, ti33, t33_desc, t33_size, ti9, t9_desc, t9_size, wrow_now, wrow_all, eqnil25, fn17, fn26, fn27, fn28, fn29, fn38, fn39, fn12, fn14, fn15, box40, ptrTo]
  generalize hCd : ASt.new A _ = C
  have c1 : C.get A.next = some (.row [.int .i64 k, .string name, .int .u64 (a : Int), .int .u64 (b : Int)] 4 false) := by rw [← hCd, ASt.get_new, if_pos rfl]
  have hC : ∀ c, c < A.next → C.get c = A.get c := fun c hc => by rw [← hCd, ASt.get_new, if_neg (by omega)]
  have hCn : C.next = A.next + 1 := by rw [← hCd]; simp only [ASt.next_new]
  have cW : C.get W = some (.row (wrow now all ms) 67 false) := (hC W hWb).trans hW
  clear hCd
  have fC : ∀ n, Fr [] A { heap := C.heap, next := C.next + n } := fun n => ⟨by show A.next ≤ C.next + n; omega, fun c hc _ => hC c hc⟩
  rcases hk with rfl | rfl
  · simp only [oneW_next, tg_eq, tgN_eq, brW_true, brW_false, c_skip, c_ret, c_exit, c_seq, c_cond, condW_b, c_block, c_scope, c_region, c_drawn, c_loop, onw_n, onw_r, onw_e, outb_e, outb_o, outb_n, outb_r, putW_some, putW_none, opsW_arr, opsW_nil, opsW_cons, wanted_none, wanted_some, guardB_some, oneW_next, oneW_move, oneW_assign, oneW_pick, oneW_build, oneW_load, oneW_store, oneW_nilCheck, oneW_binOp, oneW_unOp, oneW_makeFunc, oneW_slice, oneW_fieldAddr, oneW_field, oneW_indexAddr, oneW_index, oneW_lookup, oneW_mapUpdate, oneW_range, oneW_entry, oneW_extract, oneW_call, oneW_alloc, oneW_box, oneW_makeMap, oneW_buildSlice, oneW_convert, Hands, handsV, resultsV, oneOrTuple, argsT, arW_val, ofVal_some, plain_val, cond_true, cond_false,
    aOp_move, aOp_assign, aOp_pick, aOp_build, aOp_load, aOp_store, aOp_nilCheck, aOp_binOp, aOp_unOp, aOp_makeFunc, aOp_slice, aOp_fieldAddr, aOp_field, aOp_indexAddr, aOp_index, aOp_lookup, aOp_mapUpdate, aOp_range, aOp_entry, aOp_extract, aOp_call, aOp_alloc, aOp_box, aOp_makeMap, aOp_buildSlice, aInvoke_func,
    nbeq, nble, nblt, cond_dec, decide_true, decide_false, decide_eq_true_eq, Bool.false_eq_true, Bool.and_true, Bool.true_and, Bool.not_true, Bool.not_false, bq_t, bq_f, ev, evs, evPairs, evOpt, closed, flat, tget_put, Nat.reduceEqDiff, Nat.reduceAdd, Nat.reduceMul, Nat.reduceSub, Nat.reduceLT, Nat.reduceLeDiff, Nat.reduceBEq, reduceIte, if_true, if_false, reduceCtorEq, nth, aCall, aEnter, notYield, aNilCheck, aLoad, partV, isAggD, aFieldAddr, aField, aExtract, b_add, b_sub, b_mul, b_xor, b_eql, b_neq, b_lss, b_leq, b_gtr, b_geq, b_shr, Option.isNone, aBuiltin,
    List.length_cons, List.length_nil, true_implies, false_implies, and_true, true_and, implies_true, forall_const, List.append_nil, List.cons_append, List.nil_append, ASt.get_set, ASt.get_new, ASt.next_set, ASt.next_new, Nat.zero_add, Nat.add_zero, eq_self, ctor_self, ti63, t63_desc, t63_size, ti25, t25_desc, ti22, t22_desc, t22_size, ti59, t59_desc, t59_size, ti60, t60_desc, t60_size, ti61, t61_desc, t61_size, ti3, t3_desc, t3_size, ti40, t40_desc, t40_size, ti33, t33_desc, t33_size, ti9, t9_desc, t9_size, wrow_now, wrow_all, eqnil25, fn17, fn26, fn27, fn28, fn29, fn38, fn39, fn12, fn14, fn15, c1, Int.reduceEq]
    refine CodeW.seqd E0_ok E0_ro mixed R16_ok [0, 2, 3, 1, 4, 5] [1, 2] (by simp only [reorder, reoGo, strip, List.map_cons, List.map_nil, opAt, remap, nth, Option.map, σ, place', nbeq, List.length_cons, List.length_nil, Nat.reduceAdd, Nat.reduceLT, Nat.reduceEqDiff, if_true, if_false, reduceIte]; rfl) (by decide +kernel) (by kernel_rfl) (by kernel_rfl) (by kernel_rfl) ?_
    simp only [oneW_next, tg_eq, tgN_eq, brW_true, brW_false, c_skip, c_ret, c_exit, c_seq, c_cond, condW_b, c_block, c_scope, c_region, c_drawn, c_loop, onw_n, onw_r, onw_e, outb_e, outb_o, outb_n, outb_r, putW_some, putW_none, opsW_arr, opsW_nil, opsW_cons, wanted_none, wanted_some, guardB_some, oneW_next, oneW_move, oneW_assign, oneW_pick, oneW_build, oneW_load, oneW_store, oneW_nilCheck, oneW_binOp, oneW_unOp, oneW_makeFunc, oneW_slice, oneW_fieldAddr, oneW_field, oneW_indexAddr, oneW_index, oneW_lookup, oneW_mapUpdate, oneW_range, oneW_entry, oneW_extract, oneW_call, oneW_alloc, oneW_box, oneW_makeMap, oneW_buildSlice, oneW_convert, Hands, handsV, resultsV, oneOrTuple, argsT, arW_val, ofVal_some, plain_val, cond_true, cond_false,
    aOp_move, aOp_assign, aOp_pick, aOp_build, aOp_load, aOp_store, aOp_nilCheck, aOp_binOp, aOp_unOp, aOp_makeFunc, aOp_slice, aOp_fieldAddr, aOp_field, aOp_indexAddr, aOp_index, aOp_lookup, aOp_mapUpdate, aOp_range, aOp_entry, aOp_extract, aOp_call, aOp_alloc, aOp_box, aOp_makeMap, aOp_buildSlice, aInvoke_func,
    nbeq, nble, nblt, cond_dec, decide_true, decide_false, decide_eq_true_eq, Bool.false_eq_true, Bool.and_true, Bool.true_and, Bool.not_true, Bool.not_false, bq_t, bq_f, ev, evs, evPairs, evOpt, closed, flat, tget_put, Nat.reduceEqDiff, Nat.reduceAdd, Nat.reduceMul, Nat.reduceSub, Nat.reduceLT, Nat.reduceLeDiff, Nat.reduceBEq, reduceIte, if_true, if_false, reduceCtorEq, nth, aCall, aEnter, notYield, aNilCheck, aLoad, partV, isAggD, aFieldAddr, aField, aExtract, b_add, b_sub, b_mul, b_xor, b_eql, b_neq, b_lss, b_leq, b_gtr, b_geq, b_shr, Option.isNone, aBuiltin,
    List.length_cons, List.length_nil, true_implies, false_implies, and_true, true_and, implies_true, forall_const, List.append_nil, List.cons_append, List.nil_append, ASt.get_set, ASt.get_new, ASt.next_set, ASt.next_new, Nat.zero_add, Nat.add_zero, eq_self, ctor_self, ti63, t63_desc, t63_size, ti25, t25_desc, ti22, t22_desc, t22_size, ti59, t59_desc, t59_size, ti60, t60_desc, t60_size, ti61, t61_desc, t61_size, ti3, t3_desc, t3_size, ti40, t40_desc, t40_size, ti33, t33_desc, t33_size, ti9, t9_desc, t9_size, wrow_now, wrow_all, eqnil25, fn17, fn26, fn27, fn28, fn29, fn38, fn39, fn12, fn14, fn15, seqW_nil, seqW_cons, pendIf_t, pendIf_f, pendW, AR.val.injEq, exists_eq', and_self, fresh_move, quiet_move, fresh_assign, quiet_assign, fresh_pick, quiet_pick, fresh_build, quiet_build, fresh_load, quiet_load, fresh_store, quiet_store, fresh_nilCheck, quiet_nilCheck, fresh_binOp, quiet_binOp, fresh_unOp, quiet_unOp, fresh_makeFunc, quiet_makeFunc, fresh_slice, quiet_slice, fresh_fieldAddr, quiet_fieldAddr, fresh_field, quiet_field, fresh_indexAddr, quiet_indexAddr, fresh_index, quiet_index, fresh_lookup, quiet_lookup, fresh_mapUpdate, quiet_mapUpdate, fresh_range, quiet_range, fresh_entry, quiet_entry, fresh_extract, quiet_extract, fresh_call, quiet_call, fresh_alloc, quiet_alloc, fresh_box, quiet_box, fresh_makeMap, quiet_makeMap, fresh_buildSlice, quiet_buildSlice, quietC_value, quietC_len, quietC_cap, quietC_append, quietC_delete, fr_buildSlice, stillW_val, stillW_bad, readW_val, freshW_some, hasN, Bool.true_or, Bool.false_or, Bool.or_true, Bool.or_false, reorder, E0_ron, get_empty, get_next, ofVal_none, valEq_int, valEq_str, valEq_bool, valEq_map, valEq_ptr, valEq_slice, valEq_nilSlice, valEq_mapNil, List.length_cons, List.length_nil, c1, cW]
    refine con15 (by rw [get_next]; exact cW) ?_
    simp only [oneW_next, tg_eq, tgN_eq, brW_true, brW_false, c_skip, c_ret, c_exit, c_seq, c_cond, condW_b, c_block, c_scope, c_region, c_drawn, c_loop, onw_n, onw_r, onw_e, outb_e, outb_o, outb_n, outb_r, putW_some, putW_none, opsW_arr, opsW_nil, opsW_cons, wanted_none, wanted_some, guardB_some, oneW_next, oneW_move, oneW_assign, oneW_pick, oneW_build, oneW_load, oneW_store, oneW_nilCheck, oneW_binOp, oneW_unOp, oneW_makeFunc, oneW_slice, oneW_fieldAddr, oneW_field, oneW_indexAddr, oneW_index, oneW_lookup, oneW_mapUpdate, oneW_range, oneW_entry, oneW_extract, oneW_call, oneW_alloc, oneW_box, oneW_makeMap, oneW_buildSlice, oneW_convert, Hands, handsV, resultsV, oneOrTuple, argsT, arW_val, ofVal_some, plain_val, cond_true, cond_false,
    aOp_move, aOp_assign, aOp_pick, aOp_build, aOp_load, aOp_store, aOp_nilCheck, aOp_binOp, aOp_unOp, aOp_makeFunc, aOp_slice, aOp_fieldAddr, aOp_field, aOp_indexAddr, aOp_index, aOp_lookup, aOp_mapUpdate, aOp_range, aOp_entry, aOp_extract, aOp_call, aOp_alloc, aOp_box, aOp_makeMap, aOp_buildSlice, aInvoke_func,
    nbeq, nble, nblt, cond_dec, decide_true, decide_false, decide_eq_true_eq, Bool.false_eq_true, Bool.and_true, Bool.true_and, Bool.not_true, Bool.not_false, bq_t, bq_f, ev, evs, evPairs, evOpt, closed, flat, tget_put, Nat.reduceEqDiff, Nat.reduceAdd, Nat.reduceMul, Nat.reduceSub, Nat.reduceLT, Nat.reduceLeDiff, Nat.reduceBEq, reduceIte, if_true, if_false, reduceCtorEq, nth, aCall, aEnter, notYield, aNilCheck, aLoad, partV, isAggD, aFieldAddr, aField, aExtract, b_add, b_sub, b_mul, b_xor, b_eql, b_neq, b_lss, b_leq, b_gtr, b_geq, b_shr, Option.isNone, aBuiltin,
    List.length_cons, List.length_nil, true_implies, false_implies, and_true, true_and, implies_true, forall_const, List.append_nil, List.cons_append, List.nil_append, ASt.get_set, ASt.get_new, ASt.next_set, ASt.next_new, Nat.zero_add, Nat.add_zero, eq_self, ctor_self, ti63, t63_desc, t63_size, ti25, t25_desc, ti22, t22_desc, t22_size, ti59, t59_desc, t59_size, ti60, t60_desc, t60_size, ti61, t61_desc, t61_size, ti3, t3_desc, t3_size, ti40, t40_desc, t40_size, ti33, t33_desc, t33_size, ti9, t9_desc, t9_size, wrow_now, wrow_all, eqnil25, fn17, fn26, fn27, fn28, fn29, fn38, fn39, fn12, fn14, fn15, seqW_nil, seqW_cons, pendIf_t, pendIf_f, pendW, AR.val.injEq, exists_eq', and_self, fresh_move, quiet_move, fresh_assign, quiet_assign, fresh_pick, quiet_pick, fresh_build, quiet_build, fresh_load, quiet_load, fresh_store, quiet_store, fresh_nilCheck, quiet_nilCheck, fresh_binOp, quiet_binOp, fresh_unOp, quiet_unOp, fresh_makeFunc, quiet_makeFunc, fresh_slice, quiet_slice, fresh_fieldAddr, quiet_fieldAddr, fresh_field, quiet_field, fresh_indexAddr, quiet_indexAddr, fresh_index, quiet_index, fresh_lookup, quiet_lookup, fresh_mapUpdate, quiet_mapUpdate, fresh_range, quiet_range, fresh_entry, quiet_entry, fresh_extract, quiet_extract, fresh_call, quiet_call, fresh_alloc, quiet_alloc, fresh_box, quiet_box, fresh_makeMap, quiet_makeMap, fresh_buildSlice, quiet_buildSlice, quietC_value, quietC_len, quietC_cap, quietC_append, quietC_delete, fr_buildSlice, stillW_val, stillW_bad, readW_val, freshW_some, hasN, Bool.true_or, Bool.false_or, Bool.or_true, Bool.or_false, reorder, E0_ron, get_empty, get_next, ofVal_none, valEq_int, valEq_str, valEq_bool, valEq_map, valEq_ptr, valEq_slice, valEq_nilSlice, valEq_mapNil, List.length_cons, List.length_nil, c1, cW]
    refine con11 hn hb ?_
    simp only [oneW_next, tg_eq, tgN_eq, brW_true, brW_false, c_skip, c_ret, c_exit, c_seq, c_cond, condW_b, c_block, c_scope, c_region, c_drawn, c_loop, onw_n, onw_r, onw_e, outb_e, outb_o, outb_n, outb_r, putW_some, putW_none, opsW_arr, opsW_nil, opsW_cons, wanted_none, wanted_some, guardB_some, oneW_next, oneW_move, oneW_assign, oneW_pick, oneW_build, oneW_load, oneW_store, oneW_nilCheck, oneW_binOp, oneW_unOp, oneW_makeFunc, oneW_slice, oneW_fieldAddr, oneW_field, oneW_indexAddr, oneW_index, oneW_lookup, oneW_mapUpdate, oneW_range, oneW_entry, oneW_extract, oneW_call, oneW_alloc, oneW_box, oneW_makeMap, oneW_buildSlice, oneW_convert, Hands, handsV, resultsV, oneOrTuple, argsT, arW_val, ofVal_some, plain_val, cond_true, cond_false,
    aOp_move, aOp_assign, aOp_pick, aOp_build, aOp_load, aOp_store, aOp_nilCheck, aOp_binOp, aOp_unOp, aOp_makeFunc, aOp_slice, aOp_fieldAddr, aOp_field, aOp_indexAddr, aOp_index, aOp_lookup, aOp_mapUpdate, aOp_range, aOp_entry, aOp_extract, aOp_call, aOp_alloc, aOp_box, aOp_makeMap, aOp_buildSlice, aInvoke_func,
    nbeq, nble, nblt, cond_dec, decide_true, decide_false, decide_eq_true_eq, Bool.false_eq_true, Bool.and_true, Bool.true_and, Bool.not_true, Bool.not_false, bq_t, bq_f, ev, evs, evPairs, evOpt, closed, flat, tget_put, Nat.reduceEqDiff, Nat.reduceAdd, Nat.reduceMul, Nat.reduceSub, Nat.reduceLT, Nat.reduceLeDiff, Nat.reduceBEq, reduceIte, if_true, if_false, reduceCtorEq, nth, aCall, aEnter, notYield, aNilCheck, aLoad, partV, isAggD, aFieldAddr, aField, aExtract, b_add, b_sub, b_mul, b_xor, b_eql, b_neq, b_lss, b_leq, b_gtr, b_geq, b_shr, Option.isNone, aBuiltin,
    List.length_cons, List.length_nil, true_implies, false_implies, and_true, true_and, implies_true, forall_const, List.append_nil, List.cons_append, List.nil_append, ASt.get_set, ASt.get_new, ASt.next_set, ASt.next_new, Nat.zero_add, Nat.add_zero, eq_self, ctor_self, ti63, t63_desc, t63_size, ti25, t25_desc, ti22, t22_desc, t22_size, ti59, t59_desc, t59_size, ti60, t60_desc, t60_size, ti61, t61_desc, t61_size, ti3, t3_desc, t3_size, ti40, t40_desc, t40_size, ti33, t33_desc, t33_size, ti9, t9_desc, t9_size, wrow_now, wrow_all, eqnil25, fn17, fn26, fn27, fn28, fn29, fn38, fn39, fn12, fn14, fn15, seqW_nil, seqW_cons, pendIf_t, pendIf_f, pendW, AR.val.injEq, exists_eq', and_self, fresh_move, quiet_move, fresh_assign, quiet_assign, fresh_pick, quiet_pick, fresh_build, quiet_build, fresh_load, quiet_load, fresh_store, quiet_store, fresh_nilCheck, quiet_nilCheck, fresh_binOp, quiet_binOp, fresh_unOp, quiet_unOp, fresh_makeFunc, quiet_makeFunc, fresh_slice, quiet_slice, fresh_fieldAddr, quiet_fieldAddr, fresh_field, quiet_field, fresh_indexAddr, quiet_indexAddr, fresh_index, quiet_index, fresh_lookup, quiet_lookup, fresh_mapUpdate, quiet_mapUpdate, fresh_range, quiet_range, fresh_entry, quiet_entry, fresh_extract, quiet_extract, fresh_call, quiet_call, fresh_alloc, quiet_alloc, fresh_box, quiet_box, fresh_makeMap, quiet_makeMap, fresh_buildSlice, quiet_buildSlice, quietC_value, quietC_len, quietC_cap, quietC_append, quietC_delete, fr_buildSlice, stillW_val, stillW_bad, readW_val, freshW_some, hasN, Bool.true_or, Bool.false_or, Bool.or_true, Bool.or_false, reorder, E0_ron, get_empty, get_next, ofVal_none, valEq_int, valEq_str, valEq_bool, valEq_map, valEq_ptr, valEq_slice, valEq_nilSlice, valEq_mapNil, List.length_cons, List.length_nil, c1, cW]
    exact fC _
  · simp only [oneW_next, tg_eq, tgN_eq, brW_true, brW_false, c_skip, c_ret, c_exit, c_seq, c_cond, condW_b, c_block, c_scope, c_region, c_drawn, c_loop, onw_n, onw_r, onw_e, outb_e, outb_o, outb_n, outb_r, putW_some, putW_none, opsW_arr, opsW_nil, opsW_cons, wanted_none, wanted_some, guardB_some, oneW_next, oneW_move, oneW_assign, oneW_pick, oneW_build, oneW_load, oneW_store, oneW_nilCheck, oneW_binOp, oneW_unOp, oneW_makeFunc, oneW_slice, oneW_fieldAddr, oneW_field, oneW_indexAddr, oneW_index, oneW_lookup, oneW_mapUpdate, oneW_range, oneW_entry, oneW_extract, oneW_call, oneW_alloc, oneW_box, oneW_makeMap, oneW_buildSlice, oneW_convert, Hands, handsV, resultsV, oneOrTuple, argsT, arW_val, ofVal_some, plain_val, cond_true, cond_false,
    aOp_move, aOp_assign, aOp_pick, aOp_build, aOp_load, aOp_store, aOp_nilCheck, aOp_binOp, aOp_unOp, aOp_makeFunc, aOp_slice, aOp_fieldAddr, aOp_field, aOp_indexAddr, aOp_index, aOp_lookup, aOp_mapUpdate, aOp_range, aOp_entry, aOp_extract, aOp_call, aOp_alloc, aOp_box, aOp_makeMap, aOp_buildSlice, aInvoke_func,
    nbeq, nble, nblt, cond_dec, decide_true, decide_false, decide_eq_true_eq, Bool.false_eq_true, Bool.and_true, Bool.true_and, Bool.not_true, Bool.not_false, bq_t, bq_f, ev, evs, evPairs, evOpt, closed, flat, tget_put, Nat.reduceEqDiff, Nat.reduceAdd, Nat.reduceMul, Nat.reduceSub, Nat.reduceLT, Nat.reduceLeDiff, Nat.reduceBEq, reduceIte, if_true, if_false, reduceCtorEq, nth, aCall, aEnter, notYield, aNilCheck, aLoad, partV, isAggD, aFieldAddr, aField, aExtract, b_add, b_sub, b_mul, b_xor, b_eql, b_neq, b_lss, b_leq, b_gtr, b_geq, b_shr, Option.isNone, aBuiltin,
    List.length_cons, List.length_nil, true_implies, false_implies, and_true, true_and, implies_true, forall_const, List.append_nil, List.cons_append, List.nil_append, ASt.get_set, ASt.get_new, ASt.next_set, ASt.next_new, Nat.zero_add, Nat.add_zero, eq_self, ctor_self, ti63, t63_desc, t63_size, ti25, t25_desc, ti22, t22_desc, t22_size, ti59, t59_desc, t59_size, ti60, t60_desc, t60_size, ti61, t61_desc, t61_size, ti3, t3_desc, t3_size, ti40, t40_desc, t40_size, ti33, t33_desc, t33_size, ti9, t9_desc, t9_size, wrow_now, wrow_all, eqnil25, fn17, fn26, fn27, fn28, fn29, fn38, fn39, fn12, fn14, fn15, c1, Int.reduceEq]
    refine CodeW.seqd E0_ok E0_ro mixed R16_ok [0, 2, 3, 1, 4, 5] [1, 2] (by simp only [reorder, reoGo, strip, List.map_cons, List.map_nil, opAt, remap, nth, Option.map, σ, place', nbeq, List.length_cons, List.length_nil, Nat.reduceAdd, Nat.reduceLT, Nat.reduceEqDiff, if_true, if_false, reduceIte]; rfl) (by decide +kernel) (by kernel_rfl) (by kernel_rfl) (by kernel_rfl) ?_
    simp only [oneW_next, tg_eq, tgN_eq, brW_true, brW_false, c_skip, c_ret, c_exit, c_seq, c_cond, condW_b, c_block, c_scope, c_region, c_drawn, c_loop, onw_n, onw_r, onw_e, outb_e, outb_o, outb_n, outb_r, putW_some, putW_none, opsW_arr, opsW_nil, opsW_cons, wanted_none, wanted_some, guardB_some, oneW_next, oneW_move, oneW_assign, oneW_pick, oneW_build, oneW_load, oneW_store, oneW_nilCheck, oneW_binOp, oneW_unOp, oneW_makeFunc, oneW_slice, oneW_fieldAddr, oneW_field, oneW_indexAddr, oneW_index, oneW_lookup, oneW_mapUpdate, oneW_range, oneW_entry, oneW_extract, oneW_call, oneW_alloc, oneW_box, oneW_makeMap, oneW_buildSlice, oneW_convert, Hands, handsV, resultsV, oneOrTuple, argsT, arW_val, ofVal_some, plain_val, cond_true, cond_false,
    aOp_move, aOp_assign, aOp_pick, aOp_build, aOp_load, aOp_store, aOp_nilCheck, aOp_binOp, aOp_unOp, aOp_makeFunc, aOp_slice, aOp_fieldAddr, aOp_field, aOp_indexAddr, aOp_index, aOp_lookup, aOp_mapUpdate, aOp_range, aOp_entry, aOp_extract, aOp_call, aOp_alloc, aOp_box, aOp_makeMap, aOp_buildSlice, aInvoke_func,
    nbeq, nble, nblt, cond_dec, decide_true, decide_false, decide_eq_true_eq, Bool.false_eq_true, Bool.and_true, Bool.true_and, Bool.not_true, Bool.not_false, bq_t, bq_f, ev, evs, evPairs, evOpt, closed, flat, tget_put, Nat.reduceEqDiff, Nat.reduceAdd, Nat.reduceMul, Nat.reduceSub, Nat.reduceLT, Nat.reduceLeDiff, Nat.reduceBEq, reduceIte, if_true, if_false, reduceCtorEq, nth, aCall, aEnter, notYield, aNilCheck, aLoad, partV, isAggD, aFieldAddr, aField, aExtract, b_add, b_sub, b_mul, b_xor, b_eql, b_neq, b_lss, b_leq, b_gtr, b_geq, b_shr, Option.isNone, aBuiltin,
    List.length_cons, List.length_nil, true_implies, false_implies, and_true, true_and, implies_true, forall_const, List.append_nil, List.cons_append, List.nil_append, ASt.get_set, ASt.get_new, ASt.next_set, ASt.next_new, Nat.zero_add, Nat.add_zero, eq_self, ctor_self, ti63, t63_desc, t63_size, ti25, t25_desc, ti22, t22_desc, t22_size, ti59, t59_desc, t59_size, ti60, t60_desc, t60_size, ti61, t61_desc, t61_size, ti3, t3_desc, t3_size, ti40, t40_desc, t40_size, ti33, t33_desc, t33_size, ti9, t9_desc, t9_size, wrow_now, wrow_all, eqnil25, fn17, fn26, fn27, fn28, fn29, fn38, fn39, fn12, fn14, fn15, seqW_nil, seqW_cons, pendIf_t, pendIf_f, pendW, AR.val.injEq, exists_eq', and_self, fresh_move, quiet_move, fresh_assign, quiet_assign, fresh_pick, quiet_pick, fresh_build, quiet_build, fresh_load, quiet_load, fresh_store, quiet_store, fresh_nilCheck, quiet_nilCheck, fresh_binOp, quiet_binOp, fresh_unOp, quiet_unOp, fresh_makeFunc, quiet_makeFunc, fresh_slice, quiet_slice, fresh_fieldAddr, quiet_fieldAddr, fresh_field, quiet_field, fresh_indexAddr, quiet_indexAddr, fresh_index, quiet_index, fresh_lookup, quiet_lookup, fresh_mapUpdate, quiet_mapUpdate, fresh_range, quiet_range, fresh_entry, quiet_entry, fresh_extract, quiet_extract, fresh_call, quiet_call, fresh_alloc, quiet_alloc, fresh_box, quiet_box, fresh_makeMap, quiet_makeMap, fresh_buildSlice, quiet_buildSlice, quietC_value, quietC_len, quietC_cap, quietC_append, quietC_delete, fr_buildSlice, stillW_val, stillW_bad, readW_val, freshW_some, hasN, Bool.true_or, Bool.false_or, Bool.or_true, Bool.or_false, reorder, E0_ron, get_empty, get_next, ofVal_none, valEq_int, valEq_str, valEq_bool, valEq_map, valEq_ptr, valEq_slice, valEq_nilSlice, valEq_mapNil, List.length_cons, List.length_nil, c1, cW]
    refine con15 (by rw [get_next]; exact cW) ?_
    simp only [oneW_next, tg_eq, tgN_eq, brW_true, brW_false, c_skip, c_ret, c_exit, c_seq, c_cond, condW_b, c_block, c_scope, c_region, c_drawn, c_loop, onw_n, onw_r, onw_e, outb_e, outb_o, outb_n, outb_r, putW_some, putW_none, opsW_arr, opsW_nil, opsW_cons, wanted_none, wanted_some, guardB_some, oneW_next, oneW_move, oneW_assign, oneW_pick, oneW_build, oneW_load, oneW_store, oneW_nilCheck, oneW_binOp, oneW_unOp, oneW_makeFunc, oneW_slice, oneW_fieldAddr, oneW_field, oneW_indexAddr, oneW_index, oneW_lookup, oneW_mapUpdate, oneW_range, oneW_entry, oneW_extract, oneW_call, oneW_alloc, oneW_box, oneW_makeMap, oneW_buildSlice, oneW_convert, Hands, handsV, resultsV, oneOrTuple, argsT, arW_val, ofVal_some, plain_val, cond_true, cond_false,
    aOp_move, aOp_assign, aOp_pick, aOp_build, aOp_load, aOp_store, aOp_nilCheck, aOp_binOp, aOp_unOp, aOp_makeFunc, aOp_slice, aOp_fieldAddr, aOp_field, aOp_indexAddr, aOp_index, aOp_lookup, aOp_mapUpdate, aOp_range, aOp_entry, aOp_extract, aOp_call, aOp_alloc, aOp_box, aOp_makeMap, aOp_buildSlice, aInvoke_func,
    nbeq, nble, nblt, cond_dec, decide_true, decide_false, decide_eq_true_eq, Bool.false_eq_true, Bool.and_true, Bool.true_and, Bool.not_true, Bool.not_false, bq_t, bq_f, ev, evs, evPairs, evOpt, closed, flat, tget_put, Nat.reduceEqDiff, Nat.reduceAdd, Nat.reduceMul, Nat.reduceSub, Nat.reduceLT, Nat.reduceLeDiff, Nat.reduceBEq, reduceIte, if_true, if_false, reduceCtorEq, nth, aCall, aEnter, notYield, aNilCheck, aLoad, partV, isAggD, aFieldAddr, aField, aExtract, b_add, b_sub, b_mul, b_xor, b_eql, b_neq, b_lss, b_leq, b_gtr, b_geq, b_shr, Option.isNone, aBuiltin,
    List.length_cons, List.length_nil, true_implies, false_implies, and_true, true_and, implies_true, forall_const, List.append_nil, List.cons_append, List.nil_append, ASt.get_set, ASt.get_new, ASt.next_set, ASt.next_new, Nat.zero_add, Nat.add_zero, eq_self, ctor_self, ti63, t63_desc, t63_size, ti25, t25_desc, ti22, t22_desc, t22_size, ti59, t59_desc, t59_size, ti60, t60_desc, t60_size, ti61, t61_desc, t61_size, ti3, t3_desc, t3_size, ti40, t40_desc, t40_size, ti33, t33_desc, t33_size, ti9, t9_desc, t9_size, wrow_now, wrow_all, eqnil25, fn17, fn26, fn27, fn28, fn29, fn38, fn39, fn12, fn14, fn15, seqW_nil, seqW_cons, pendIf_t, pendIf_f, pendW, AR.val.injEq, exists_eq', and_self, fresh_move, quiet_move, fresh_assign, quiet_assign, fresh_pick, quiet_pick, fresh_build, quiet_build, fresh_load, quiet_load, fresh_store, quiet_store, fresh_nilCheck, quiet_nilCheck, fresh_binOp, quiet_binOp, fresh_unOp, quiet_unOp, fresh_makeFunc, quiet_makeFunc, fresh_slice, quiet_slice, fresh_fieldAddr, quiet_fieldAddr, fresh_field, quiet_field, fresh_indexAddr, quiet_indexAddr, fresh_index, quiet_index, fresh_lookup, quiet_lookup, fresh_mapUpdate, quiet_mapUpdate, fresh_range, quiet_range, fresh_entry, quiet_entry, fresh_extract, quiet_extract, fresh_call, quiet_call, fresh_alloc, quiet_alloc, fresh_box, quiet_box, fresh_makeMap, quiet_makeMap, fresh_buildSlice, quiet_buildSlice, quietC_value, quietC_len, quietC_cap, quietC_append, quietC_delete, fr_buildSlice, stillW_val, stillW_bad, readW_val, freshW_some, hasN, Bool.true_or, Bool.false_or, Bool.or_true, Bool.or_false, reorder, E0_ron, get_empty, get_next, ofVal_none, valEq_int, valEq_str, valEq_bool, valEq_map, valEq_ptr, valEq_slice, valEq_nilSlice, valEq_mapNil, List.length_cons, List.length_nil, c1, cW]
    refine con11 hn hb ?_
    simp only [oneW_next, tg_eq, tgN_eq, brW_true, brW_false, c_skip, c_ret, c_exit, c_seq, c_cond, condW_b, c_block, c_scope, c_region, c_drawn, c_loop, onw_n, onw_r, onw_e, outb_e, outb_o, outb_n, outb_r, putW_some, putW_none, opsW_arr, opsW_nil, opsW_cons, wanted_none, wanted_some, guardB_some, oneW_next, oneW_move, oneW_assign, oneW_pick, oneW_build, oneW_load, oneW_store, oneW_nilCheck, oneW_binOp, oneW_unOp, oneW_makeFunc, oneW_slice, oneW_fieldAddr, oneW_field, oneW_indexAddr, oneW_index, oneW_lookup, oneW_mapUpdate, oneW_range, oneW_entry, oneW_extract, oneW_call, oneW_alloc, oneW_box, oneW_makeMap, oneW_buildSlice, oneW_convert, Hands, handsV, resultsV, oneOrTuple, argsT, arW_val, ofVal_some, plain_val, cond_true, cond_false,
    aOp_move, aOp_assign, aOp_pick, aOp_build, aOp_load, aOp_store, aOp_nilCheck, aOp_binOp, aOp_unOp, aOp_makeFunc, aOp_slice, aOp_fieldAddr, aOp_field, aOp_indexAddr, aOp_index, aOp_lookup, aOp_mapUpdate, aOp_range, aOp_entry, aOp_extract, aOp_call, aOp_alloc, aOp_box, aOp_makeMap, aOp_buildSlice, aInvoke_func,
    nbeq, nble, nblt, cond_dec, decide_true, decide_false, decide_eq_true_eq, Bool.false_eq_true, Bool.and_true, Bool.true_and, Bool.not_true, Bool.not_false, bq_t, bq_f, ev, evs, evPairs, evOpt, closed, flat, tget_put, Nat.reduceEqDiff, Nat.reduceAdd, Nat.reduceMul, Nat.reduceSub, Nat.reduceLT, Nat.reduceLeDiff, Nat.reduceBEq, reduceIte, if_true, if_false, reduceCtorEq, nth, aCall, aEnter, notYield, aNilCheck, aLoad, partV, isAggD, aFieldAddr, aField, aExtract, b_add, b_sub, b_mul, b_xor, b_eql, b_neq, b_lss, b_leq, b_gtr, b_geq, b_shr, Option.isNone, aBuiltin,
    List.length_cons, List.length_nil, true_implies, false_implies, and_true, true_and, implies_true, forall_const, List.append_nil, List.cons_append, List.nil_append, ASt.get_set, ASt.get_new, ASt.next_set, ASt.next_new, Nat.zero_add, Nat.add_zero, eq_self, ctor_self, ti63, t63_desc, t63_size, ti25, t25_desc, ti22, t22_desc, t22_size, ti59, t59_desc, t59_size, ti60, t60_desc, t60_size, ti61, t61_desc, t61_size, ti3, t3_desc, t3_size, ti40, t40_desc, t40_size, ti33, t33_desc, t33_size, ti9, t9_desc, t9_size, wrow_now, wrow_all, eqnil25, fn17, fn26, fn27, fn28, fn29, fn38, fn39, fn12, fn14, fn15, seqW_nil, seqW_cons, pendIf_t, pendIf_f, pendW, AR.val.injEq, exists_eq', and_self, fresh_move, quiet_move, fresh_assign, quiet_assign, fresh_pick, quiet_pick, fresh_build, quiet_build, fresh_load, quiet_load, fresh_store, quiet_store, fresh_nilCheck, quiet_nilCheck, fresh_binOp, quiet_binOp, fresh_unOp, quiet_unOp, fresh_makeFunc, quiet_makeFunc, fresh_slice, quiet_slice, fresh_fieldAddr, quiet_fieldAddr, fresh_field, quiet_field, fresh_indexAddr, quiet_indexAddr, fresh_index, quiet_index, fresh_lookup, quiet_lookup, fresh_mapUpdate, quiet_mapUpdate, fresh_range, quiet_range, fresh_entry, quiet_entry, fresh_extract, quiet_extract, fresh_call, quiet_call, fresh_alloc, quiet_alloc, fresh_box, quiet_box, fresh_makeMap, quiet_makeMap, fresh_buildSlice, quiet_buildSlice, quietC_value, quietC_len, quietC_cap, quietC_append, quietC_delete, fr_buildSlice, stillW_val, stillW_bad, readW_val, freshW_some, hasN, Bool.true_or, Bool.false_or, Bool.or_true, Bool.or_false, reorder, E0_ron, get_empty, get_next, ofVal_none, valEq_int, valEq_str, valEq_bool, valEq_map, valEq_ptr, valEq_slice, valEq_nilSlice, valEq_mapNil, List.length_cons, List.length_nil, c1, cW]
    exact fC _
end Go.Proofs.Ytpmpclieclcbdaa

/- Contracts in drawn regions of the laws; acts in a slice. -/
namespace Go.Proofs.Ytpmpclieclcbdaa
open Go Go.AE Go.Sort

variable {Z : Go.AE.Road}
set_option maxRecDepth 10000

theorem WheelAt.uniq {A : ASt} {W all now all' now' : Nat} {ms ms' : List Nat} {M M' : TM} (h : WheelAt A W all ms now M) (h' : WheelAt A W all' ms' now' M') : all = all' ∧ ms = ms' ∧ now = now' ∧ M = M' := by
  have e := h.row.symm.trans h'.row
  simp only [Option.some.injEq, AObj.row.injEq, wrow, List.cons.injEq, Value.int.injEq, Int.natCast_inj, Value.map.injEq, true_and, and_true] at e
  obtain ⟨e1, e2, e3⟩ := e
  subst e1 e2
  refine ⟨rfl, ?_, rfl, ?_⟩
  · have hinj : ∀ {l l' : List Nat}, l.map (fun i => Value.map (some i)) = l'.map (fun i => Value.map (some i)) → l = l' := by
      intro l
      induction l with
      | nil => intro l' h; cases l' with | nil => rfl | cons _ _ => cases h
      | cons a l ih =>
        intro l' h
        cases l' with
        | nil => cases h
        | cons b l' =>
          simp only [List.map_cons, List.cons.injEq, Value.map.injEq, Option.some.injEq] at h
          rw [h.1, ih h.2]
    exact hinj e3
  · obtain ⟨l, ck, h1, h2, h3⟩ := h.allm
    obtain ⟨l', ck', h1', h2', h3'⟩ := h'.allm
    rw [h1] at h1'
    have hu : ∀ k, uget l k = uget l' k := by
      simp only [Option.some.injEq, AObj.map.injEq] at h1'
      have hinj : ∀ {l l' : List UE}, uEnts l = uEnts l' → l = l' := by
        intro l
        induction l with
        | nil => intro l' h; cases l' with | nil => rfl | cons _ _ => cases h
        | cons a l ih =>
          intro l' h
          cases l' with
          | nil => cases h
          | cons b l' =>
            simp only [uEnts, List.map_cons, List.cons.injEq, ue, MapEntry.mk.injEq, Value.string.injEq, Value.int.injEq, Int.natCast_inj, true_and] at h
            obtain ⟨⟨e1, e2, e3⟩, e4⟩ := h
            obtain ⟨a1, a2, a3⟩ := a
            obtain ⟨b1, b2, b3⟩ := b
            simp only at e1 e2 e3
            subst e1 e2 e3
            rw [ih e4]
      rw [hinj h1'.1]
      exact fun _ => rfl
    funext k
    rw [← h3, ← h3', hu]

/-- The contracts that the law's scripts call. -/
def R8 : Tgt → List Value → ASt → (Value → ASt → Prop) → Prop := fun t args A S =>
  (∃ (W now all a b : Nat) (ms : List Nat) (M : TM) (k : Int) (name : ByteArray), WheelAt A W all ms now M ∧ b < 18446744073709551616 ∧ (k = 2 ∨ k = 5) ∧ t = .fn 16 ∧ args = [actV k name a b, .pointer (some ⟨W, 0, none⟩)] ∧ S = fun v A' => v = .int .u64 ((lat now b : Nat) : Int) ∧ Fr [] A A') ∨
  (∃ (W now all a : Nat) (ms : List Nat) (M : TM) (name : ByteArray), WheelAt A W all ms now M ∧ a < 18446744073709551616 ∧ t = .fn 12 ∧ args = [.pointer (some ⟨W, 0, none⟩), .string name, .int .u64 (a : Int)] ∧ S = fun v A' => v = .bool (decide (now < a)) ∧ WheelAt A' W all ms now (if now < a then M.put name a else M) ∧ Fr (W :: all :: ms) A A')
theorem R8_ok (t args A S) (h : R8 t args A S) : CallT Z Try.prog t args A S := by
  rcases h with ⟨W, now, all, a, b, ms, M, k, name, hw, hb, hk, rfl, rfl, rfl⟩ | ⟨W, now, all, a, ms, M, name, hw, ha, rfl, rfl, rfl⟩
  · exact tick_by hw.row (hw.below W (by simp)) hw.nowlt hb hk
  · exact put_spec hw name ha
theorem con16 {A : ASt} {W now all a b : Nat} {ms : List Nat} {M : TM} {k : Int} {name : ByteArray} (hw : WheelAt A W all ms now M) (hb : b < 18446744073709551616) (hk : k = 2 ∨ k = 5) {K : Value → ASt → Prop} (h : ∀ A', Fr [] A A' → K (.int .u64 ((lat now b : Nat) : Int)) A') : conC R8 (.fn 16) [actV k name a b, .pointer (some ⟨W, 0, none⟩)] A K := by
  refine ⟨⟨_, .inl ⟨W, now, all, a, b, ms, M, k, name, hw, hb, hk, rfl, rfl, rfl⟩⟩, ?_⟩
  rintro S (⟨W', now', all', a', b', ms', M', k', name', hw', _, _, _, ha, rfl⟩ | ⟨_, _, _, _, _, _, _, _, _, ht, _⟩) v A' hv
  · obtain ⟨rfl, hf⟩ := hv
    simp only [actV, List.cons.injEq, Value.agg.injEq, Array.mk.injEq, Value.int.injEq, Int.natCast_inj, Value.pointer.injEq, Option.some.injEq, Addr.mk.injEq, and_true, true_and] at ha
    obtain ⟨⟨_, _, _, rfl⟩, rfl⟩ := ha
    obtain ⟨_, _, rfl, _⟩ := hw.uniq hw'
    exact h A' hf
  · cases ht
theorem con12 {A : ASt} {W now all a : Nat} {ms : List Nat} {M : TM} {name : ByteArray} (hw : WheelAt A W all ms now M) (halt : a < 18446744073709551616) {K : Value → ASt → Prop} (h : ∀ A', WheelAt A' W all ms now (if now < a then M.put name a else M) → Fr (W :: all :: ms) A A' → K (.bool (decide (now < a))) A') : conC R8 (.fn 12) [.pointer (some ⟨W, 0, none⟩), .string name, .int .u64 (a : Int)] A K := by
  refine ⟨⟨_, .inr ⟨W, now, all, a, ms, M, name, hw, halt, rfl, rfl, rfl⟩⟩, ?_⟩
  rintro S (⟨_, _, _, _, _, _, _, _, _, _, _, _, ht, _⟩ | ⟨W', now', all', a', ms', M', name', hw', _, _, ha, rfl⟩) v A' hv
  · cases ht
  · obtain ⟨rfl, hw2, hf⟩ := hv
    simp only [List.cons.injEq, Value.string.injEq, Value.int.injEq, Int.natCast_inj, Value.pointer.injEq, Option.some.injEq, Addr.mk.injEq, and_true, true_and] at ha
    obtain ⟨rfl, rfl, rfl⟩ := ha
    obtain ⟨rfl, rfl, rfl, rfl⟩ := hw.uniq hw'
    exact h A' hw2 hf

/-! ### acts in a slice -/
structure ActD where
  kind : Int
  name : ByteArray
  at_ : Nat
  by_ : Nat
def acells : List ActD → List Value
  | [] => []
  | x :: l => .int .i64 x.kind :: .string x.name :: .int .u64 (x.at_ : Int) :: .int .u64 (x.by_ : Int) :: acells l
theorem acells_get : ∀ (l : List ActD) (i : Nat) (x : ActD), l[i]? = some x → nth (acells l) (i * 4) = some (.int .i64 x.kind) ∧ nth (acells l) (i * 4 + 1) = some (.string x.name) ∧ nth (acells l) (i * 4 + 2) = some (.int .u64 (x.at_ : Int)) ∧ nth (acells l) (i * 4 + 3) = some (.int .u64 (x.by_ : Int)) ∧ cut (acells l) (i * 4) 4 = some [.int .i64 x.kind, .string x.name, .int .u64 (x.at_ : Int), .int .u64 (x.by_ : Int)]
  | [], i, x, h => by simp at h
  | y :: l, 0, x, h => by
    simp at h; subst h
    exact ⟨rfl, rfl, rfl, rfl, rfl⟩
  | y :: l, i + 1, x, h => by
    have ih := acells_get l i x (by simpa using h)
    have e : (i + 1) * 4 = i * 4 + 1 + 1 + 1 + 1 := by omega
    rw [e]
    obtain ⟨h1, h2, h3, h4, h5⟩ := ih
    refine ⟨h1, h2, h3, h4, ?_⟩
    simpa only [acells, cut, List.drop_succ_cons] using h5
end Go.Proofs.Ytpmpclieclcbdaa

/- The live question, wherever it is asked. -/
namespace Go.Proofs.Ytpmpclieclcbdaa
open Go Go.AE Go.Sort

variable {Z : Go.AE.Road}

theorem alive_run0 : ends isTrueV (run E0 20000 (.call (.fn 9) [] (startAt 0))) = true := by kernel_rfl
theorem alive_run : ∃ fuel, ends isTrueV (run E0 fuel (.call (.fn 9) [] (startAt 0))) = true := ⟨20000, alive_run0⟩

theorem alive_calls (w : World) : Calls Try.prog 9 #[] w fun e w' => e = .returned (.bool true) ∧ Go.RowKit.Below w.heap.size w w' ∧ w.drawn ≤ w'.drawn := by
  obtain ⟨fuel, hrun⟩ := alive_run
  have hall : (callBy (run E0 fuel) (.fn 9) [] (startAt 0)).all (fun r => isTrueV r.1 = true) := by
    have := ends_all hrun
    unfold callBy
    revert this
    generalize run E0 fuel (.call (.fn 9) [] (startAt 0)) = m
    intro this
    induction m with
    | ret o =>
      obtain ⟨v, A, rfl, hq⟩ := this
      exact hq
    | ask n k ih => exact fun i hi => ih i (this i hi)
    | fail s => exact this.elim
    | pick p k ih => exact fun r hr => ih r (this r hr)
  have h := CallW.of_run (Z := roadRaw [] w) (f := 9) (args := []) (A := startAt 0) (Q := fun v _ => isTrueV v = true) E0_ok E0_ro hook_none mixed hall
  refine (h (rawRen []) w #[] (Step.refl (rep_start [] w)) .nil).mono ?_
  rintro e w' ⟨v, A', v', ρ', hq, rfl, hv, hst⟩
  refine ⟨?_, Step.below (n := 0) hst, hst.drawn⟩
  cases hv <;> first | (simp [isTrueV] at hq; done) | skip
  rename_i b
  cases b with
  | true => rfl
  | false => cases hq

theorem alive_spec {A : ASt} : CallW Z Try.prog 9 [] A (fun v A' => v = .bool true ∧ A' = A) := by
  intro ρ w args' hR ha
  obtain ⟨l⟩ := args'
  cases ha
  refine (alive_calls w).mono ?_
  rintro e w' ⟨rfl, hb, hd⟩
  exact ⟨.bool true, A, .bool true, ρ, ⟨rfl, rfl⟩, rfl, .bool _, Step.of_below (Z.rep hR) hb hd⟩
end Go.Proofs.Ytpmpclieclcbdaa

/- Timers in a slice; an advance to the last tick; the maps' rows that are read alone. -/
namespace Go.Proofs.Ytpmpclieclcbdaa
open Go Go.AE Go.Sort

variable {Z : Go.AE.Road}
set_option maxRecDepth 10000

theorem wti {s : Spans} {t : TypeId} : (withRo E0 s).ti t = E0.ti t := congrArg (fun x => x) rfl
theorem wfn {s : Spans} {f : FuncId} : (withRo E0 s).fn f = E0.fn f := congrArg (fun x => x) rfl
theorem wbin {s : Spans} {op : BinOp} {t : TypeId} {xo yo : Operand} {x y : Value} : aBin2 (withRo E0 s) op t xo yo x y = aBin2 E0 op t xo yo x y := congrArg (fun x => x) rfl
theorem wbox {s : Spans} {t : TypeId} {v : Value} : aBox (withRo E0 s) t v = aBox E0 t v := congrArg (fun x => x) rfl
theorem wlen {s : Spans} {t : TypeId} {v : Value} {A : ASt} : aLen (withRo E0 s) t v A = aLen E0 t v A := congrArg (fun x => x) rfl
theorem wix {s : Spans} {t : TypeId} {x i : Value} : aIndexAddr (withRo E0 s) t x i = aIndexAddr E0 t x i := congrArg (fun x => x) rfl

theorem len30 {A : ASt} {b : Option Addr} {n c : Nat} : aLen E0 30 (.slice b n c) A = some (.int .i64 (n : Int)) := len_sl ti30 t30_desc
theorem ix30 {b len cap k off : Nat} (hk : k < len) : aIndexAddr E0 30 (.slice (some ⟨b, off, none⟩) len cap) (.int .i64 (k : Int)) = some (.pointer (some ⟨b, off + k * 2, none⟩)) := by
  have := indexAddr_sl (A := { heap := .e, next := 0 }) ti30 t30_desc ti33 (kd := .i64) (k := k) (b := b) (off := off) (len := len) (cap := cap) hk
  rwa [t33_size] at this

theorem tcells_nth : ∀ {ts : List (ByteArray × Nat)} {rest : List Value} {i : Nat} {t : ByteArray × Nat}, ts[i]? = some t → nth (tcells ts ++ rest) (i * 2) = some (.string t.1) ∧ nth (tcells ts ++ rest) (i * 2 + 1) = some (.int .u64 (t.2 : Nat))
  | [], rest, i, t, h => by simp at h
  | y :: l, rest, 0, t, h => by
    simp at h; subst h
    exact ⟨rfl, rfl⟩
  | y :: l, rest, i + 1, t, h => by
    have ih := tcells_nth (ts := l) (rest := rest) (i := i) (t := t) (by simpa using h)
    have e : (i + 1) * 2 = i * 2 + 1 + 1 := by omega
    rw [e]
    exact ih

theorem SliceAt.len {A A' : ASt} {lo : Nat} {v : Value} {ts : List (ByteArray × Nat)} (h : SliceAt A lo v ts) : aLen E0 30 v A' = some (.int .i64 (ts.length : Int)) := by
  rcases h with ⟨rfl, rfl⟩ | ⟨b, cap, rest, tl, rfl, _⟩
  · exact len30
  · exact len30
theorem SliceAt.ix {A : ASt} {lo : Nat} {v : Value} {ts : List (ByteArray × Nat)} (h : SliceAt A lo v ts) {i : Nat} (hi : i < ts.length) : ∃ b rest tl, aIndexAddr E0 30 v (.int .i64 (i : Int)) = some (.pointer (some ⟨b, i * 2, none⟩)) ∧ A.get b = some (.row (tcells ts ++ rest) 2 tl) := by
  rcases h with ⟨rfl, rfl⟩ | ⟨b, cap, rest, tl, rfl, hb, _⟩
  · simp at hi
  · exact ⟨b, rest, tl, by have := ix30 (b := b) (cap := cap) (off := 0) hi; rwa [Nat.zero_add] at this, hb⟩

/-- A timer's name in the list is its own alone. -/
theorem Lists.names {D : TM} {ts : List (ByteArray × Nat)} (h : Lists D ts) : (ts.map (·.1)).Nodup := by
  have hu : ∀ k a b, (k, a) ∈ ts → (k, b) ∈ ts → a = b := fun k a b h1 h2 => by
    have := ((h.mem k a).1 h1).symm.trans ((h.mem k b).1 h2)
    simpa using this
  have ho := h.ord
  clear h
  induction ts with
  | nil => simp
  | cons x l ih =>
    rw [List.pairwise_cons] at ho
    refine List.nodup_cons.2 ⟨fun hm => ?_, ih (fun k a b h1 h2 => hu k a b (by simp [h1]) (by simp [h2])) ho.2⟩
    obtain ⟨y, hy, e⟩ := List.mem_map.1 hm
    have h1 := ho.1 y hy
    have e' : y.1 = x.1 := e
    have h2 := hu x.1 x.2 y.2 (by simp) (List.mem_cons_of_mem _ (by rw [← e']; exact hy))
    have : x = y := Prod.ext e'.symm h2
    rw [this] at h1
    exact tlt_irr _ h1

theorem Lists.cnt {D : TM} {ts : List (ByteArray × Nat)} (h : Lists D ts) : Cnt D ts.length := by
  refine ⟨ts.map (·.1), h.names, fun k => ?_, by simp⟩
  constructor
  · intro hk
    obtain ⟨y, hy, rfl⟩ := List.mem_map.1 hk
    rw [(h.mem y.1 y.2).1 hy]; rfl
  · intro hk
    obtain ⟨a, ha⟩ := Option.isSome_iff_exists.1 hk
    exact List.mem_map.2 ⟨(k, a), (h.mem k a).2 ha, rfl⟩
theorem Cnt.uniq {M : TM} {n m : Nat} (h : Cnt M n) (k : Cnt M m) : n = m := by
  obtain ⟨l, h1, h2, h3⟩ := h
  obtain ⟨r, k1, k2, k3⟩ := k
  have a := nodup_leG h1 fun x hx => (k2 x).2 ((h2 x).1 hx)
  have b := nodup_leG k1 fun x hx => (h2 x).2 ((k2 x).1 hx)
  omega

/-- An advance to the last tick: all are due. -/
theorem adv_top {A : ASt} {W all now : Nat} {ms : List Nat} {M : TM} (h : WheelAt A W all ms now M) (hF : Few M) :
    CallW Z Try.prog 13 [.pointer (some ⟨W, 0, none⟩), .int .u64 18446744073709551615] A (fun v A' => ∃ ts, Lists M ts ∧ SliceAt A' A.next v ts ∧ WheelAt A' W all ms 18446744073709551615 (fun _ => none) ∧ Fr (W :: all :: ms) A A') := by
  have := advance_spec (Z := Z) h hF (nw := 18446744073709551615) (by omega)
  refine CallW.mono this ?_
  intro v A' hq
  have hn := h.nowlt
  rw [if_neg (by omega)] at hq
  have e1 : (fun k => (M k).filter fun a => decide (a ≤ 18446744073709551615)) = M := by
    funext k
    cases hk : M k with
    | none => rfl
    | some a =>
      have := h.lt k a hk
      simp only [Option.filter]
      rw [if_pos (by simp; omega)]
  have e2 : (fun k => (M k).filter fun a => decide (18446744073709551615 < a)) = fun _ => none := by
    funext k
    cases hk : M k with
    | none => rfl
    | some a =>
      have := h.lt k a hk
      simp only [Option.filter]
      rw [if_neg (by simp; omega)]
  rw [e1, e2] at hq
  exact hq
end Go.Proofs.Ytpmpclieclcbdaa

/- A slot's timers; the far ones; one list behind another. -/
namespace Go.Proofs.Ytpmpclieclcbdaa
open Go Go.AE Go.Sort

variable {Z : Go.AE.Road}
set_option maxRecDepth 10000


theorem Few.at_ {M : TM} (h : Few M) (now i : Nat) : Few (M.at_ now i) := by
  obtain ⟨l, h1, h2⟩ := h
  refine ⟨l, h1, fun k hk => h2 k ?_⟩
  unfold TM.at_ at hk
  cases hm : M k with
  | none => rw [hm] at hk; cases hk
  | some a => rfl

theorem slot_spec {A : ASt} {W all now L j : Nat} {ms : List Nat} {M : TM} (h : WheelAt A W all ms now M) (hF : Few M) (hL : L < 4) (hj : j < 16) :
    CallW Z Try.prog 24 [.pointer (some ⟨W, 0, none⟩), .int .i64 (L : Int), .int .i64 (j : Int)] A (Srt (M.at_ now (16 * L + j)) A) := by
  refine CallW.of_code E0_ok E0_ro fn24 rfl (n := 34) rfl (rs := [.tmp 6]) rfl (by simp) (codeW_ok E0_ok E0_ro ?_)
  have f1 : ((L : Int) < 0) = False := eq_false (by omega)
  have f2 : ((L : Int) ≥ 4) = False := eq_false (by omega)
  have f3 : ((j : Int) < 0) = False := eq_false (by omega)
  have f4 : ((j : Int) ≥ 16) = False := eq_false (by omega)
  have hW := h.row
  have ei1 : ∀ o, aIndexAddr E0 61 (.pointer (some ⟨W, o, none⟩)) (.int .i64 (L : Int)) = some (.pointer (some ⟨W, o + L * 16, none⟩)) := fun o => by
    have := indexAddr_arr (A := A) ti61 t61_desc ti60 (kd := .i64) (k := L) (b := W) (off := o) hL
    rwa [t60_size] at this
  have ei2 : ∀ o, aIndexAddr E0 60 (.pointer (some ⟨W, o, none⟩)) (.int .i64 (j : Int)) = some (.pointer (some ⟨W, o + j, none⟩)) := fun o => by
    have := indexAddr_arr (A := A) ti60 t60_desc ti59 (kd := .i64) (k := j) (b := W) (off := o) hj
    rwa [t59_size, Nat.mul_one] at this
  have hlt : 16 * L + j < ms.length := by rw [h.len]; omega
  have esl : nth (wrow now all ms) (2 + L * 16 + j) = some (.map (some (ms[16 * L + j]'hlt))) := by
    have := wrow_slot (now := now) (all := all) (ms := ms) (k := 16 * L + j) hlt
    rw [← this]
    congr 1; omega
  have hm : ms[16 * L + j]? = some (ms[16 * L + j]'hlt) := List.getElem?_eq_getElem _
  generalize ms[16 * L + j]'hlt = m at esl hm
  simp only [hW, oneW_next, tg_eq, tgN_eq, brW_true, brW_false, c_skip, c_ret, c_exit, c_seq, c_cond, condW_b, c_block, c_scope, c_region, c_drawn, c_loop, onw_n, onw_r, onw_e, outb_e, outb_o, outb_n, outb_r, putW_some, putW_none, opsW_arr, opsW_nil, opsW_cons, wanted_none, wanted_some, guardB_some, oneW_next, oneW_move, oneW_assign, oneW_pick, oneW_build, oneW_load, oneW_store, oneW_nilCheck, oneW_binOp, oneW_unOp, oneW_makeFunc, oneW_slice, oneW_fieldAddr, oneW_field, oneW_indexAddr, oneW_index, oneW_lookup, oneW_mapUpdate, oneW_range, oneW_entry, oneW_extract, oneW_call, oneW_alloc, oneW_box, oneW_makeMap, oneW_buildSlice, oneW_convert, Hands, handsV, resultsV, oneOrTuple, argsT, arW_val, ofVal_some, plain_val, cond_true, cond_false,
    aOp_move, aOp_assign, aOp_pick, aOp_build, aOp_load, aOp_store, aOp_nilCheck, aOp_binOp, aOp_unOp, aOp_makeFunc, aOp_slice, aOp_fieldAddr, aOp_field, aOp_indexAddr, aOp_index, aOp_lookup, aOp_mapUpdate, aOp_range, aOp_entry, aOp_extract, aOp_call, aOp_alloc, aOp_box, aOp_makeMap, aOp_buildSlice, aInvoke_func,
    nbeq, nble, nblt, cond_dec, decide_true, decide_false, decide_eq_true_eq, Bool.false_eq_true, Bool.and_true, Bool.true_and, Bool.not_true, Bool.not_false, bq_t, bq_f, ev, evs, evPairs, evOpt, closed, flat, tget_put, Nat.reduceEqDiff, Nat.reduceAdd, Nat.reduceMul, Nat.reduceSub, Nat.reduceLT, Nat.reduceLeDiff, Nat.reduceBEq, reduceIte, if_true, if_false, reduceCtorEq, nth, aCall, aEnter, notYield, aNilCheck, aLoad, partV, isAggD, aFieldAddr, aField, aExtract, b_add, b_sub, b_mul, b_xor, b_eql, b_neq, b_lss, b_leq, b_gtr, b_geq, b_shr, Option.isNone, aBuiltin,
    List.length_cons, List.length_nil, true_implies, false_implies, and_true, true_and, implies_true, forall_const, List.append_nil, List.cons_append, List.nil_append, ASt.get_set, ASt.get_new, ASt.next_set, ASt.next_new, Nat.zero_add, Nat.add_zero, eq_self, ctor_self, ti63, t63_desc, t63_size, ti25, t25_desc, ti22, t22_desc, t22_size, ti59, t59_desc, t59_size, ti60, t60_desc, t60_size, ti61, t61_desc, t61_size, ti3, t3_desc, t3_size, ti40, t40_desc, t40_size, ti33, t33_desc, t33_size, ti9, t9_desc, t9_size, wrow_now, wrow_all, eqnil25, fn17, fn26, fn27, fn28, fn29, fn38, fn39, fn12, fn14, fn15, eqnil25, f1, f2, f3, f4, ei1, ei2, esl]
  refine CallT.mono (sorted_spec (h.slot _ _ hm) (hF.at_ _ _) (h.below m (by simp [List.mem_of_getElem? hm]))) ?_
  intro v A' hs
  simp only [oneW_next, tg_eq, tgN_eq, brW_true, brW_false, c_skip, c_ret, c_exit, c_seq, c_cond, condW_b, c_block, c_scope, c_region, c_drawn, c_loop, onw_n, onw_r, onw_e, outb_e, outb_o, outb_n, outb_r, putW_some, putW_none, opsW_arr, opsW_nil, opsW_cons, wanted_none, wanted_some, guardB_some, oneW_next, oneW_move, oneW_assign, oneW_pick, oneW_build, oneW_load, oneW_store, oneW_nilCheck, oneW_binOp, oneW_unOp, oneW_makeFunc, oneW_slice, oneW_fieldAddr, oneW_field, oneW_indexAddr, oneW_index, oneW_lookup, oneW_mapUpdate, oneW_range, oneW_entry, oneW_extract, oneW_call, oneW_alloc, oneW_box, oneW_makeMap, oneW_buildSlice, oneW_convert, Hands, handsV, resultsV, oneOrTuple, argsT, arW_val, ofVal_some, plain_val, cond_true, cond_false,
    aOp_move, aOp_assign, aOp_pick, aOp_build, aOp_load, aOp_store, aOp_nilCheck, aOp_binOp, aOp_unOp, aOp_makeFunc, aOp_slice, aOp_fieldAddr, aOp_field, aOp_indexAddr, aOp_index, aOp_lookup, aOp_mapUpdate, aOp_range, aOp_entry, aOp_extract, aOp_call, aOp_alloc, aOp_box, aOp_makeMap, aOp_buildSlice, aInvoke_func,
    nbeq, nble, nblt, cond_dec, decide_true, decide_false, decide_eq_true_eq, Bool.false_eq_true, Bool.and_true, Bool.true_and, Bool.not_true, Bool.not_false, bq_t, bq_f, ev, evs, evPairs, evOpt, closed, flat, tget_put, Nat.reduceEqDiff, Nat.reduceAdd, Nat.reduceMul, Nat.reduceSub, Nat.reduceLT, Nat.reduceLeDiff, Nat.reduceBEq, reduceIte, if_true, if_false, reduceCtorEq, nth, aCall, aEnter, notYield, aNilCheck, aLoad, partV, isAggD, aFieldAddr, aField, aExtract, b_add, b_sub, b_mul, b_xor, b_eql, b_neq, b_lss, b_leq, b_gtr, b_geq, b_shr, Option.isNone, aBuiltin,
    List.length_cons, List.length_nil, true_implies, false_implies, and_true, true_and, implies_true, forall_const, List.append_nil, List.cons_append, List.nil_append, ASt.get_set, ASt.get_new, ASt.next_set, ASt.next_new, Nat.zero_add, Nat.add_zero, eq_self, ctor_self, ti63, t63_desc, t63_size, ti25, t25_desc, ti22, t22_desc, t22_size, ti59, t59_desc, t59_size, ti60, t60_desc, t60_size, ti61, t61_desc, t61_size, ti3, t3_desc, t3_size, ti40, t40_desc, t40_size, ti33, t33_desc, t33_size, ti9, t9_desc, t9_size, wrow_now, wrow_all, eqnil25, fn17, fn26, fn27, fn28, fn29, fn38, fn39, fn12, fn14, fn15]
  exact hs

theorem far_spec {A : ASt} {W all now : Nat} {ms : List Nat} {M : TM} (h : WheelAt A W all ms now M) (hF : Few M) :
    CallW Z Try.prog 25 [.pointer (some ⟨W, 0, none⟩)] A (Srt (M.at_ now 64) A) := by
  refine CallW.of_code E0_ok E0_ro fn25 rfl (n := 10) rfl (rs := [.tmp 2]) rfl (by simp) (codeW_ok E0_ok E0_ro ?_)
  have hW := h.row
  have hlt : 64 < ms.length := by rw [h.len]; omega
  have esl : nth (wrow now all ms) (2 + 64) = some (.map (some (ms[64]'hlt))) := wrow_slot hlt
  have hm : ms[64]? = some (ms[64]'hlt) := List.getElem?_eq_getElem _
  generalize ms[64]'hlt = m at esl hm
  simp only [hW, oneW_next, tg_eq, tgN_eq, brW_true, brW_false, c_skip, c_ret, c_exit, c_seq, c_cond, condW_b, c_block, c_scope, c_region, c_drawn, c_loop, onw_n, onw_r, onw_e, outb_e, outb_o, outb_n, outb_r, putW_some, putW_none, opsW_arr, opsW_nil, opsW_cons, wanted_none, wanted_some, guardB_some, oneW_next, oneW_move, oneW_assign, oneW_pick, oneW_build, oneW_load, oneW_store, oneW_nilCheck, oneW_binOp, oneW_unOp, oneW_makeFunc, oneW_slice, oneW_fieldAddr, oneW_field, oneW_indexAddr, oneW_index, oneW_lookup, oneW_mapUpdate, oneW_range, oneW_entry, oneW_extract, oneW_call, oneW_alloc, oneW_box, oneW_makeMap, oneW_buildSlice, oneW_convert, Hands, handsV, resultsV, oneOrTuple, argsT, arW_val, ofVal_some, plain_val, cond_true, cond_false,
    aOp_move, aOp_assign, aOp_pick, aOp_build, aOp_load, aOp_store, aOp_nilCheck, aOp_binOp, aOp_unOp, aOp_makeFunc, aOp_slice, aOp_fieldAddr, aOp_field, aOp_indexAddr, aOp_index, aOp_lookup, aOp_mapUpdate, aOp_range, aOp_entry, aOp_extract, aOp_call, aOp_alloc, aOp_box, aOp_makeMap, aOp_buildSlice, aInvoke_func,
    nbeq, nble, nblt, cond_dec, decide_true, decide_false, decide_eq_true_eq, Bool.false_eq_true, Bool.and_true, Bool.true_and, Bool.not_true, Bool.not_false, bq_t, bq_f, ev, evs, evPairs, evOpt, closed, flat, tget_put, Nat.reduceEqDiff, Nat.reduceAdd, Nat.reduceMul, Nat.reduceSub, Nat.reduceLT, Nat.reduceLeDiff, Nat.reduceBEq, reduceIte, if_true, if_false, reduceCtorEq, nth, aCall, aEnter, notYield, aNilCheck, aLoad, partV, isAggD, aFieldAddr, aField, aExtract, b_add, b_sub, b_mul, b_xor, b_eql, b_neq, b_lss, b_leq, b_gtr, b_geq, b_shr, Option.isNone, aBuiltin,
    List.length_cons, List.length_nil, true_implies, false_implies, and_true, true_and, implies_true, forall_const, List.append_nil, List.cons_append, List.nil_append, ASt.get_set, ASt.get_new, ASt.next_set, ASt.next_new, Nat.zero_add, Nat.add_zero, eq_self, ctor_self, ti63, t63_desc, t63_size, ti25, t25_desc, ti22, t22_desc, t22_size, ti59, t59_desc, t59_size, ti60, t60_desc, t60_size, ti61, t61_desc, t61_size, ti3, t3_desc, t3_size, ti40, t40_desc, t40_size, ti33, t33_desc, t33_size, ti9, t9_desc, t9_size, wrow_now, wrow_all, eqnil25, fn17, fn26, fn27, fn28, fn29, fn38, fn39, fn12, fn14, fn15, eqnil25, esl]
  refine CallT.mono (sorted_spec (h.slot _ _ hm) (hF.at_ _ _) (h.below m (by simp [List.mem_of_getElem? hm]))) ?_
  intro v A' hs
  simp only [oneW_next, tg_eq, tgN_eq, brW_true, brW_false, c_skip, c_ret, c_exit, c_seq, c_cond, condW_b, c_block, c_scope, c_region, c_drawn, c_loop, onw_n, onw_r, onw_e, outb_e, outb_o, outb_n, outb_r, putW_some, putW_none, opsW_arr, opsW_nil, opsW_cons, wanted_none, wanted_some, guardB_some, oneW_next, oneW_move, oneW_assign, oneW_pick, oneW_build, oneW_load, oneW_store, oneW_nilCheck, oneW_binOp, oneW_unOp, oneW_makeFunc, oneW_slice, oneW_fieldAddr, oneW_field, oneW_indexAddr, oneW_index, oneW_lookup, oneW_mapUpdate, oneW_range, oneW_entry, oneW_extract, oneW_call, oneW_alloc, oneW_box, oneW_makeMap, oneW_buildSlice, oneW_convert, Hands, handsV, resultsV, oneOrTuple, argsT, arW_val, ofVal_some, plain_val, cond_true, cond_false,
    aOp_move, aOp_assign, aOp_pick, aOp_build, aOp_load, aOp_store, aOp_nilCheck, aOp_binOp, aOp_unOp, aOp_makeFunc, aOp_slice, aOp_fieldAddr, aOp_field, aOp_indexAddr, aOp_index, aOp_lookup, aOp_mapUpdate, aOp_range, aOp_entry, aOp_extract, aOp_call, aOp_alloc, aOp_box, aOp_makeMap, aOp_buildSlice, aInvoke_func,
    nbeq, nble, nblt, cond_dec, decide_true, decide_false, decide_eq_true_eq, Bool.false_eq_true, Bool.and_true, Bool.true_and, Bool.not_true, Bool.not_false, bq_t, bq_f, ev, evs, evPairs, evOpt, closed, flat, tget_put, Nat.reduceEqDiff, Nat.reduceAdd, Nat.reduceMul, Nat.reduceSub, Nat.reduceLT, Nat.reduceLeDiff, Nat.reduceBEq, reduceIte, if_true, if_false, reduceCtorEq, nth, aCall, aEnter, notYield, aNilCheck, aLoad, partV, isAggD, aFieldAddr, aField, aExtract, b_add, b_sub, b_mul, b_xor, b_eql, b_neq, b_lss, b_leq, b_gtr, b_geq, b_shr, Option.isNone, aBuiltin,
    List.length_cons, List.length_nil, true_implies, false_implies, and_true, true_and, implies_true, forall_const, List.append_nil, List.cons_append, List.nil_append, ASt.get_set, ASt.get_new, ASt.next_set, ASt.next_new, Nat.zero_add, Nat.add_zero, eq_self, ctor_self, ti63, t63_desc, t63_size, ti25, t25_desc, ti22, t22_desc, t22_size, ti59, t59_desc, t59_size, ti60, t60_desc, t60_size, ti61, t61_desc, t61_size, ti3, t3_desc, t3_size, ti40, t40_desc, t40_size, ti33, t33_desc, t33_size, ti9, t9_desc, t9_size, wrow_now, wrow_all, eqnil25, fn17, fn26, fn27, fn28, fn29, fn38, fn39, fn12, fn14, fn15]
  exact hs
end Go.Proofs.Ytpmpclieclcbdaa

/- One list of timers behind another; an act's deadline of its own; equal timers. -/
namespace Go.Proofs.Ytpmpclieclcbdaa
open Go Go.AE Go.Sort

variable {Z : Go.AE.Road}
set_option maxRecDepth 100000

theorem singles_tc : ∀ ts : List (ByteArray × Nat), singles (tcells ts) = true
  | [] => rfl
  | _ :: l => singles_tc l
theorem cut_all {l : List Value} {n : Nat} (h : l.length = n) : cut l 0 n = some l := by
  unfold cut
  simp only [List.drop_zero]
  rw [List.take_of_length_le (by omega)]
  show cond (Nat.beq l.length n) (some l) none = _
  rw [h, Nat.beq_refl]; rfl
theorem src_nil {A : ASt} {n l c : Nat} : srcCells 2 (.slice none l c) n A = some [] := rfl
theorem src_sl {A : ASt} {b n l c : Nat} {ts : List (ByteArray × Nat)} (hb : A.get b = some (.row (tcells ts) 2 true)) (hn : ts.length = n) : srcCells 2 (.slice (some ⟨b, 0, none⟩) l c) n A = some (tcells ts) := by
  simp only [srcCells, hb]
  exact cut_all (by rw [tcells_len]; omega)
theorem tcells_append : ∀ {a b : List (ByteArray × Nat)}, tcells (a ++ b) = tcells a ++ tcells b
  | [], b => rfl
  | t :: l, b => by
    show _ :: _ :: tcells (l ++ b) = _
    rw [tcells_append]; rfl
/-- The call of append, once its source is read. -/
theorem app30 {A : ASt} {v x : Value} {base : Option Addr} {len cap n : Nat} {new : List Value} (hv : v = .slice base len cap) (hx : lenV x = some n) (hs : srcCells 2 x n A = some new) (hl : new.length = n * 2) (hg : singles new = true) (hb : (len + n) * 25 < 1000000000) :
    aAppend E0 30 30 v x A = appendTo 2 base len cap n new A := by
  subst hv
  have h1 : Nat.blt ((len + n) * (24 + 1)) 1000000000 = true := Nat.ble_eq_true_of_le hb
  have h2 : Nat.beq new.length (n * 2) = true := by rw [hl, Nat.beq_refl]
  simp only [aAppend, ti30, t30_desc, ti33, hx, t33_zero, t33_size, t33_bytes, hs, isl, h1, h2, hg, z33a, z33b]
  rfl
theorem SliceAt.app {A : ASt} {lo : Nat} {v1 v2 : Value} {ts1 ts2 : List (ByteArray × Nat)} (h1 : SliceAt A lo v1 ts1) (h2 : SliceAt A lo v2 ts2) (hl : ts1.length + ts2.length ≤ 1000000) (hlo : lo ≤ A.next) :
    ∃ v' A', aAppend E0 30 30 v1 v2 A = .val v' A' ∧ SliceAt A' lo v' (ts1 ++ ts2) ∧ A.next ≤ A'.next ∧ ∀ b, b < lo → A'.get b = A.get b := by
  obtain ⟨n2, new, hx, hs, hnl, hg, hn2, hnew⟩ : ∃ n2 new, lenV v2 = some n2 ∧ srcCells 2 v2 n2 A = some new ∧ new.length = n2 * 2 ∧ singles new = true ∧ n2 = ts2.length ∧ new = tcells ts2 := by
    rcases h2 with ⟨rfl, rfl⟩ | ⟨b, cap, rest, tl, rfl, hb, _, _, rfl, rfl, rfl⟩
    · exact ⟨0, [], rfl, rfl, rfl, rfl, rfl, rfl⟩
    · rw [List.append_nil] at hb
      exact ⟨_, _, rfl, src_sl hb rfl, by rw [tcells_len]; omega, singles_tc _, rfl, rfl⟩
  rcases h1 with ⟨rfl, rfl⟩ | ⟨b, cap, rest, tl, rfl, hb, h1, h1', rfl, rfl, rfl⟩
  · rw [app30 rfl hx hs hnl hg (by simp at hl; omega)]
    show ∃ v' A', cond (Nat.beq n2 0) (AR.val (.slice none 0 0) A) (grown A new 2 n2) = .val v' A' ∧ _
    by_cases h0 : n2 = 0
    · subst h0
      have : ts2 = [] := List.eq_nil_of_length_eq_zero hn2.symm
      exact ⟨_, _, rfl, .inl ⟨by simp [this], rfl⟩, Nat.le_refl _, fun _ _ => rfl⟩
    · have hb0 : Nat.beq n2 0 = false := by rw [nbeq]; simp [h0]
      rw [hb0, cond_false, grown_eq]
      refine ⟨_, _, rfl, .inr ⟨A.next, unk, [], true, by simp [hn2], by rw [ASt.get_new, if_pos rfl, hnew]; simp, hlo, by rw [ASt.next_new]; omega, rfl, rfl, rfl⟩, by rw [ASt.next_new]; omega, fun b hb => by rw [ASt.get_new, if_neg (by omega)]⟩
  · rw [List.append_nil] at hb
    have hc : (tcells ts1).length = 2 * ts1.length := tcells_len ts1
    rw [app30 rfl hx hs hnl hg (by omega)]
    have g2 : Nat.ble (0 + ts1.length * 2) (tcells ts1).length = true := Nat.ble_eq_true_of_le (by omega)
    have g4 : Nat.beq (0 + ts1.length * 2) (tcells ts1).length = true := by rw [nbeq]; simp; omega
    by_cases h0 : n2 = 0
    · have ht2 : ts2 = [] := List.eq_nil_of_length_eq_zero (by omega)
      have g3 : Nat.ble (0 + (ts1.length + n2) * 2) (tcells ts1).length = true := Nat.ble_eq_true_of_le (by omega)
      have hnew0 : new = [] := by rw [hnew, ht2]; rfl
      have hov : over (tcells ts1) (0 + ts1.length * 2) new = some (tcells ts1) := by
        rw [hnew0]
        unfold over
        have : Nat.ble (0 + ts1.length * 2 + ([] : List Value).length) (tcells ts1).length = true := Nat.ble_eq_true_of_le (by simp; omega)
        rw [this, cond_true]
        simp
      simp only [appendTo, hb, g2, g3, Nat.beq_refl, Bool.and_self, cond_true, hov]
      refine ⟨_, _, rfl, .inr ⟨b, unk, [], true, by rw [ht2, List.append_nil, h0]; rfl, by rw [ASt.get_set, if_pos rfl, ht2, List.append_nil, List.append_nil], h1, by rw [ASt.next_set]; exact h1', rfl, rfl, rfl⟩, by rw [ASt.next_set]; omega, fun b' hb' => by rw [ASt.get_set, if_neg (by omega)]⟩
    · have g3 : Nat.ble (0 + (ts1.length + n2) * 2) (tcells ts1).length = false := by rw [nble]; simp; omega
      simp only [appendTo, hb, g2, g3, g4, grown_eq, Nat.beq_refl, Bool.and_self, cond_true, cond_false, List.take_zero, List.drop_zero]
      refine ⟨_, _, rfl, .inr ⟨A.next, unk, [], true, by rw [List.length_append, hn2]; rfl, ?_, hlo, by rw [ASt.next_new, ASt.next_set]; omega, rfl, rfl, rfl⟩, by rw [ASt.next_new, ASt.next_set]; omega, fun b' hb' => ?_⟩
      · rw [ASt.get_new, ASt.next_set, if_pos rfl, hnew, tcells_append, List.append_nil]
      · rw [ASt.get_new, ASt.next_set, if_neg (by omega), ASt.get_set, if_neg (by omega)]

/-- The cells of one timer. -/
theorem tcells_cut : ∀ {ts : List (ByteArray × Nat)} {rest : List Value} {i : Nat} {t : ByteArray × Nat}, ts[i]? = some t → cut (tcells ts ++ rest) (i * 2) 2 = some [.string t.1, .int .u64 (t.2 : Nat)]
  | [], rest, i, t, h => by simp at h
  | y :: l, rest, 0, t, h => by
    simp at h; subst h
    rfl
  | y :: l, rest, i + 1, t, h => by
    have ih := tcells_cut (ts := l) (rest := rest) (i := i) (t := t) (by simpa using h)
    have e : (i + 1) * 2 = i * 2 + 1 + 1 := by omega
    rw [e]
    simpa only [tcells, cut, List.cons_append, List.drop_succ_cons] using ih
theorem pb {α β : Type} {P : Program} {f : α → Sem β} : ∀ {m : Sem α} {a : α}, pureRun P m = some a → pureRun P (m >>= f) = pureRun P (f a) := by
  intro m
  induction m with
  | pure x => intro a h; cases h; rfl
  | program k ih => intro a h; exact ih P h
  | mark x k ih => intro a h; exact ih h
  | _ => intro a h; cases h
theorem beqB {k : ByteArray} : (k == k) = true := by
  first | exact beq_self_eq_true k | (cases k; simp [BEq.beq]; done) | (show (k.data == k.data) = true; exact beq_self_eq_true _) | (cases k; exact beq_self_eq_true _) | (obtain ⟨d⟩ := k; unfold BEq.beq ByteArray.instBEq; simp [ByteArray.instBEq.beq])
theorem es33 {k : ByteArray} {d : Nat} : pureRun Try.prog (Op.equalIn (d + 1) 9 (.string k) (.string k)) = some true := by
  unfold Op.equalIn
  rw [pb (a := .string) (by kernel_rfl)]
  show some (k == k) = some true
  rw [beqB]
theorem ei33 {a : Int} {d : Nat} : pureRun Try.prog (Op.equalIn (d + 1) 22 (.int .u64 a) (.int .u64 a)) = some true := by
  unfold Op.equalIn
  rw [pb (a := .int .u64) (by kernel_rfl)]
  show some (a == a) = some true
  simp
theorem eq33 {k : ByteArray} {a : Nat} : pureRun Try.prog (Op.equal 33 (.agg #[.string k, .int .u64 (a : Int)]) (.agg #[.string k, .int .u64 (a : Int)])) = some true := by
  show pureRun Try.prog (Op.equalIn (9999 + 1) 33 (.agg #[.string k, .int .u64 (a : Int)]) (.agg #[.string k, .int .u64 (a : Int)])) = some true
  unfold Op.equalIn
  rw [pb (a := .struct #[{ name := "Name", type := 9, offset := 0, embedded := false, tag := "", pkgPath := "", byteOffset := 0 }, { name := "At", type := 22, offset := 1, embedded := false, tag := "", pkgPath := "", byteOffset := 16 }]) (by kernel_rfl)]
  dsimp only
  rw [pb (m := program) (a := Try.prog) rfl]
  have h0 : Try.prog.stoodInHeld 33 = false := by kernel_rfl
  rw [h0]
  simp only [Bool.false_eq_true, if_false]
  have hp0 : pureRun Try.prog (part 9 #[Value.string k, Value.int IntKind.u64 ↑a] 0) = some (.string k) := by kernel_rfl
  have hp1 : pureRun Try.prog (part 22 #[Value.string k, Value.int IntKind.u64 ↑a] 1) = some (.int .u64 (a : Int)) := by kernel_rfl
  simp only [List.forIn_toArray, List.forIn_cons, List.forIn_nil, bind_assoc, pure_bind]
  have n1 : ("Name" = "_") = False := by simp
  have n2 : ("At" = "_") = False := by simp
  simp only [ne_eq, n1, n2, not_false_eq_true, if_true, bind_assoc]
  rw [pb hp0, pb hp0, pb (m := Op.equalIn 9999 9 (.string k) (.string k)) (es33 (d := 9998))]
  simp only [Bool.not_true, Bool.false_eq_true, if_false, pure_bind, bind_assoc]
  rw [pb hp1, pb hp1, pb (m := Op.equalIn 9999 22 (.int .u64 (a : Int)) (.int .u64 (a : Int))) (ei33 (d := 9998))]
  simp only [Bool.not_true, Bool.false_eq_true, if_false, pure_bind, bind_assoc]
  rfl
theorem neq33 {xo yo : Operand} {k : ByteArray} {a : Nat} : aBin2 E0 .neq 33 xo yo (.agg #[.string k, .int .u64 (a : Int)]) (.agg #[.string k, .int .u64 (a : Int)]) = some (.bool false) := by
  have e1 : E0.bin .neq 33 xo yo (.agg #[.string k, .int .u64 (a : Int)]) (.agg #[.string k, .int .u64 (a : Int)]) = some (.bool false) := by
    show pureRun Try.prog (do eqGuard .neq 33 xo yo (.agg #[.string k, .int .u64 (a : Int)]) (.agg #[.string k, .int .u64 (a : Int)]); binOp .neq 33 (.agg #[.string k, .int .u64 (a : Int)]) (.agg #[.string k, .int .u64 (a : Int)])) = _
    rw [pb (a := ()) (by kernel_rfl)]
    show pureRun Try.prog (do pure (Value.bool (!(← Op.equal 33 (.agg #[.string k, .int .u64 (a : Int)]) (.agg #[.string k, .int .u64 (a : Int)]))))) = _
    rw [pb eq33]
    rfl
  have e2 : closed (.agg #[.string k, .int .u64 (a : Int)]) = true := rfl
  have e3 : aBin E0 .neq 33 xo yo (.agg #[.string k, .int .u64 (a : Int)]) (.agg #[.string k, .int .u64 (a : Int)]) = none := by
    simp [aBin, eqV, ti33, t33_desc]
  simp only [aBin2, e3, e1, e2, Bool.and_self, cond_true]
  rfl
/-- Two lists of one set are the same. -/
theorem Lists.uniq {D : TM} {a b : List (ByteArray × Nat)} (h : Lists D a) (k : Lists D b) : a = b := by
  refine List.Perm.eq_of_pairwise (le := tlt) ?_ h.ord k.ord ?_
  · intro x y _ _ h1 h2
    exact absurd (tlt_trans h1 h2) (tlt_irr x)
  · have na : a.Nodup := h.ord.imp fun {x y} hxy e => by subst e; exact tlt_irr _ hxy
    have nb : b.Nodup := k.ord.imp fun {x y} hxy e => by subst e; exact tlt_irr _ hxy
    refine (List.perm_ext_iff_of_nodup na nb).2 fun x => ?_
    rw [show x = (x.1, x.2) from rfl, h.mem, k.mem]
/-- What is told in two leaps is what is told in one. -/
theorem Lists.two {M : TM} {mid end_ : Nat} (hle : mid ≤ end_) {a b : List (ByteArray × Nat)} (h : Lists (fun k => (M k).filter fun x => decide (x ≤ mid)) a) (k : Lists (fun k => ((M k).filter fun x => decide (mid < x)).filter fun x => decide (x ≤ end_)) b) :
    Lists (fun k => (M k).filter fun x => decide (x ≤ end_)) (a ++ b) := by
  have ha : ∀ t ∈ a, M t.1 = some t.2 ∧ t.2 ≤ mid := fun t ht => by
    obtain ⟨h1, h2⟩ := Option.filter_eq_some_iff.1 ((h.mem t.1 t.2).1 ht)
    exact ⟨h1, by simpa using h2⟩
  have hb : ∀ t ∈ b, M t.1 = some t.2 ∧ mid < t.2 ∧ t.2 ≤ end_ := fun t ht => by
    obtain ⟨h1, h2⟩ := Option.filter_eq_some_iff.1 ((k.mem t.1 t.2).1 ht)
    obtain ⟨h3, h4⟩ := Option.filter_eq_some_iff.1 h1
    exact ⟨h3, by simpa using h4, by simpa using h2⟩
  refine ⟨fun n x => ?_, ?_⟩
  · rw [List.mem_append, h.mem, k.mem]
    constructor
    · rintro (h1 | h1)
      · obtain ⟨h2, h3⟩ := Option.filter_eq_some_iff.1 h1
        simp only [decide_eq_true_eq] at h3
        exact Option.filter_eq_some_iff.2 ⟨h2, by simp; omega⟩
      · obtain ⟨h2, h3⟩ := Option.filter_eq_some_iff.1 h1
        exact Option.filter_eq_some_iff.2 ⟨(Option.filter_eq_some_iff.1 h2).1, h3⟩
    · intro h1
      obtain ⟨h2, h3⟩ := Option.filter_eq_some_iff.1 h1
      simp only [decide_eq_true_eq] at h3
      by_cases hm : x ≤ mid
      · exact .inl (Option.filter_eq_some_iff.2 ⟨h2, by simpa using hm⟩)
      · exact .inr (Option.filter_eq_some_iff.2 ⟨Option.filter_eq_some_iff.2 ⟨h2, by simp; omega⟩, by simpa using h3⟩)
  · refine List.pairwise_append.2 ⟨h.ord, k.ord, fun x hx y hy => .inl ?_⟩
    have := (ha x hx).2
    have := (hb y hy).2.1
    omega

theorem tick_at {A : ASt} {W a b : Nat} {k : Int} {name : ByteArray} (hk : k ≠ 2 ∧ k ≠ 5 ∧ k ≠ 6) :
    CallW Z Try.prog 16 [actV k name a b, .pointer (some ⟨W, 0, none⟩)] A (fun v A' => v = .int .u64 (a : Int) ∧ Fr [] A A') := by
  refine CallW.of_code E0_ok E0_ro fn16 rfl (n := 34) rfl (rs := [.tmp 4]) rfl (by simp) (codeW_ok E0_ok E0_ro ?_)
  unfold actV
  have d1 : (k = 2) = False := eq_false hk.1
  have d2 : (k = 5) = False := eq_false hk.2.1
  have d3 : (k = 6) = False := eq_false hk.2.2
  simp only [oneW_next, tg_eq, tgN_eq, brW_true, brW_false, c_skip, c_ret, c_exit, c_seq, c_cond, condW_b, c_block, c_scope, c_region, c_drawn, c_loop, onw_n, onw_r, onw_e, outb_e, outb_o, outb_n, outb_r, putW_some, putW_none, opsW_arr, opsW_nil, opsW_cons, wanted_none, wanted_some, guardB_some, oneW_next, oneW_move, oneW_assign, oneW_pick, oneW_build, oneW_load, oneW_store, oneW_nilCheck, oneW_binOp, oneW_unOp, oneW_makeFunc, oneW_slice, oneW_fieldAddr, oneW_field, oneW_indexAddr, oneW_index, oneW_lookup, oneW_mapUpdate, oneW_range, oneW_entry, oneW_extract, oneW_call, oneW_alloc, oneW_box, oneW_makeMap, oneW_buildSlice, oneW_convert, Hands, handsV, resultsV, oneOrTuple, argsT, arW_val, ofVal_some, plain_val, cond_true, cond_false,
    aOp_move, aOp_assign, aOp_pick, aOp_build, aOp_load, aOp_store, aOp_nilCheck, aOp_binOp, aOp_unOp, aOp_makeFunc, aOp_slice, aOp_fieldAddr, aOp_field, aOp_indexAddr, aOp_index, aOp_lookup, aOp_mapUpdate, aOp_range, aOp_entry, aOp_extract, aOp_call, aOp_alloc, aOp_box, aOp_makeMap, aOp_buildSlice, aInvoke_func,
    nbeq, nble, nblt, cond_dec, decide_true, decide_false, decide_eq_true_eq, Bool.false_eq_true, Bool.and_true, Bool.true_and, Bool.not_true, Bool.not_false, bq_t, bq_f, ev, evs, evPairs, evOpt, closed, flat, tget_put, Nat.reduceEqDiff, Nat.reduceAdd, Nat.reduceMul, Nat.reduceSub, Nat.reduceLT, Nat.reduceLeDiff, Nat.reduceBEq, reduceIte, if_true, if_false, reduceCtorEq, nth, aCall, aEnter, notYield, aNilCheck, aLoad, partV, isAggD, aFieldAddr, aField, aExtract, b_add, b_sub, b_mul, b_xor, b_eql, b_neq, b_lss, b_leq, b_gtr, b_geq, b_shr, Option.isNone, aBuiltin,
    List.length_cons, List.length_nil, true_implies, false_implies, and_true, true_and, implies_true, forall_const, List.append_nil, List.cons_append, List.nil_append, ASt.get_set, ASt.get_new, ASt.next_set, ASt.next_new, Nat.zero_add, Nat.add_zero, eq_self, ctor_self, ti63, t63_desc, t63_size, ti25, t25_desc, ti22, t22_desc, t22_size, ti59, t59_desc, t59_size, ti60, t60_desc, t60_size, ti61, t61_desc, t61_size, ti3, t3_desc, t3_size, ti40, t40_desc, t40_size, ti33, t33_desc, t33_size, ti9, t9_desc, t9_size, wrow_now, wrow_all, eqnil25, fn17, fn26, fn27, fn28, fn29, fn38, fn39, fn12, fn14, fn15, box40, ptrTo]
  generalize hCd : ASt.new A _ = C
  have c1 : C.get A.next = some (.row [.int .i64 k, .string name, .int .u64 (a : Int), .int .u64 (b : Int)] 4 false) := by rw [← hCd, ASt.get_new, if_pos rfl]
  have hC : ∀ c, c < A.next → C.get c = A.get c := fun c hc => by rw [← hCd, ASt.get_new, if_neg (by omega)]
  have hCn : C.next = A.next + 1 := by rw [← hCd]; simp only [ASt.next_new]
  clear hCd
  simp only [oneW_next, tg_eq, tgN_eq, brW_true, brW_false, c_skip, c_ret, c_exit, c_seq, c_cond, condW_b, c_block, c_scope, c_region, c_drawn, c_loop, onw_n, onw_r, onw_e, outb_e, outb_o, outb_n, outb_r, putW_some, putW_none, opsW_arr, opsW_nil, opsW_cons, wanted_none, wanted_some, guardB_some, oneW_next, oneW_move, oneW_assign, oneW_pick, oneW_build, oneW_load, oneW_store, oneW_nilCheck, oneW_binOp, oneW_unOp, oneW_makeFunc, oneW_slice, oneW_fieldAddr, oneW_field, oneW_indexAddr, oneW_index, oneW_lookup, oneW_mapUpdate, oneW_range, oneW_entry, oneW_extract, oneW_call, oneW_alloc, oneW_box, oneW_makeMap, oneW_buildSlice, oneW_convert, Hands, handsV, resultsV, oneOrTuple, argsT, arW_val, ofVal_some, plain_val, cond_true, cond_false,
    aOp_move, aOp_assign, aOp_pick, aOp_build, aOp_load, aOp_store, aOp_nilCheck, aOp_binOp, aOp_unOp, aOp_makeFunc, aOp_slice, aOp_fieldAddr, aOp_field, aOp_indexAddr, aOp_index, aOp_lookup, aOp_mapUpdate, aOp_range, aOp_entry, aOp_extract, aOp_call, aOp_alloc, aOp_box, aOp_makeMap, aOp_buildSlice, aInvoke_func,
    nbeq, nble, nblt, cond_dec, decide_true, decide_false, decide_eq_true_eq, Bool.false_eq_true, Bool.and_true, Bool.true_and, Bool.not_true, Bool.not_false, bq_t, bq_f, ev, evs, evPairs, evOpt, closed, flat, tget_put, Nat.reduceEqDiff, Nat.reduceAdd, Nat.reduceMul, Nat.reduceSub, Nat.reduceLT, Nat.reduceLeDiff, Nat.reduceBEq, reduceIte, if_true, if_false, reduceCtorEq, nth, aCall, aEnter, notYield, aNilCheck, aLoad, partV, isAggD, aFieldAddr, aField, aExtract, b_add, b_sub, b_mul, b_xor, b_eql, b_neq, b_lss, b_leq, b_gtr, b_geq, b_shr, Option.isNone, aBuiltin,
    List.length_cons, List.length_nil, true_implies, false_implies, and_true, true_and, implies_true, forall_const, List.append_nil, List.cons_append, List.nil_append, ASt.get_set, ASt.get_new, ASt.next_set, ASt.next_new, Nat.zero_add, Nat.add_zero, eq_self, ctor_self, ti63, t63_desc, t63_size, ti25, t25_desc, ti22, t22_desc, t22_size, ti59, t59_desc, t59_size, ti60, t60_desc, t60_size, ti61, t61_desc, t61_size, ti3, t3_desc, t3_size, ti40, t40_desc, t40_size, ti33, t33_desc, t33_size, ti9, t9_desc, t9_size, wrow_now, wrow_all, eqnil25, fn17, fn26, fn27, fn28, fn29, fn38, fn39, fn12, fn14, fn15, c1, d1, d2, d3]
  exact ⟨by omega, fun c hc _ => hC c hc⟩
end Go.Proofs.Ytpmpclieclcbdaa

/- The law 'WheelDue': names and deadlines, in plain terms. -/
namespace Go.Proofs.Ytpmpclieclcbdaa
open Go Go.AE Go.Sort

/-- The name of the timer with this number. -/
def nm (i : Nat) : ByteArray := ⟨#[UInt8.ofNat (65 + i)]⟩
theorem nm_byte {i : Nat} (h : i < 190) : (UInt8.ofNat (65 + i)).toNat = 65 + i := by
  rw [UInt8.toNat_ofNat']
  omega
theorem nm_inj {i j : Nat} (hi : i < 190) (hj : j < 190) (h : nm i = nm j) : i = j := by
  have h2 : UInt8.ofNat (65 + i) = UInt8.ofNat (65 + j) := by
    have := congrArg (fun b => b.data.toList) h
    simpa [nm] using this
  have := congrArg UInt8.toNat h2
  rw [nm_byte hi, nm_byte hj] at this
  omega

/-- These deadlines, by the timer's number; 0: none. -/
def Mt (M : TM) (ats : List Nat) : Prop := ∀ k a, M k = some a ↔ ∃ j, ats[j]? = some a ∧ a ≠ 0 ∧ k = nm j
theorem Mt.nil : Mt (fun _ => none) [] := fun k a => by simp
theorem get_snoc {α : Type} {l : List α} {x a : α} {j : Nat} (h : (l ++ [x])[j]? = some a) : l[j]? = some a ∨ (j = l.length ∧ a = x) := by
  by_cases hj : j < l.length
  · rw [List.getElem?_append_left hj] at h; exact .inl h
  · rw [List.getElem?_append_right (by omega)] at h
    have : j - l.length = 0 := by
      by_cases hz : j - l.length = 0
      · exact hz
      · rw [List.getElem?_eq_none (by simp; omega)] at h; cases h
    rw [this] at h
    exact .inr ⟨by omega, by simpa using h.symm⟩
theorem lt_of_get {α : Type} {l : List α} {x : α} {j : Nat} (h : l[j]? = some x) : j < l.length := by
  by_cases hj : j < l.length
  · exact hj
  · rw [List.getElem?_eq_none (by omega)] at h; cases h
theorem Mt.put {M : TM} {ats : List Nat} {t : Nat} (h : Mt M ats) (hl : ats.length < 190) (ht : t ≠ 0) : Mt (M.put (nm ats.length) t) (ats ++ [t]) := by
  intro k a
  unfold TM.put
  constructor
  · intro hk
    by_cases e : k = nm ats.length
    · rw [if_pos e] at hk
      cases hk
      exact ⟨ats.length, by simp, ht, e⟩
    · rw [if_neg e] at hk
      obtain ⟨j, h1, h2, h3⟩ := (h k a).1 hk
      exact ⟨j, by rw [List.getElem?_append_left (lt_of_get h1)]; exact h1, h2, h3⟩
  · rintro ⟨j, h1, h2, h3⟩
    rcases get_snoc h1 with h1 | ⟨rfl, rfl⟩
    · have hj := lt_of_get h1
      rw [if_neg fun e => by
        have := nm_inj (by omega) (by omega) (h3.symm.trans e)
        omega]
      exact (h k a).2 ⟨j, h1, h2, h3⟩
    · rw [if_pos h3]
theorem Mt.skip {M : TM} {ats : List Nat} (h : Mt M ats) : Mt M (ats ++ [0]) := by
  intro k a
  constructor
  · intro hk
    obtain ⟨j, h1, h2, h3⟩ := (h k a).1 hk
    exact ⟨j, by rw [List.getElem?_append_left (lt_of_get h1)]; exact h1, h2, h3⟩
  · rintro ⟨j, h1, h2, h3⟩
    rcases get_snoc h1 with h1 | ⟨rfl, rfl⟩
    · exact (h k a).2 ⟨j, h1, h2, h3⟩
    · exact absurd rfl h2

theorem Mt.few {M : TM} {ats : List Nat} (h : Mt M ats) (hl : ats.length ≤ 190) : Few M := by
  refine ⟨(List.range ats.length).map nm, by simp; omega, fun k hk => ?_⟩
  obtain ⟨a, ha⟩ := Option.isSome_iff_exists.1 hk
  obtain ⟨j, h1, _, h3⟩ := (h k a).1 ha
  exact List.mem_map.2 ⟨j, List.mem_range.2 (lt_of_get h1), h3.symm⟩

/-- How many of the first so many are above 0. -/
def above (n : Nat) (ats : List Nat) : Nat := ((ats.take n).filter fun a => decide (0 < a)).length
theorem above_zero {ats : List Nat} : above 0 ats = 0 := by simp [above]
theorem above_succ {n a : Nat} {ats : List Nat} (h : ats[n]? = some a) : above (n + 1) ats = above n ats + if 0 < a then 1 else 0 := by
  unfold above
  rw [List.take_add_one, h]
  by_cases ha : 0 < a
  · simp [ha]
  · simp [ha]
theorem above_le {n : Nat} {ats : List Nat} : above n ats ≤ n := by
  unfold above
  exact Nat.le_trans (List.length_filter_le _ _) (by rw [List.length_take]; omega)
theorem above_range {ats : List Nat} : ∀ {n : Nat}, n ≤ ats.length → ((List.range n).filter fun j => decide (0 < ats[j]?.getD 0)).length = above n ats
  | 0, _ => by simp [above]
  | n + 1, h => by
    have hg : ats[n]? = some ats[n] := List.getElem?_eq_getElem _
    rw [above_succ hg, ← above_range (n := n) (by omega), List.range_succ, List.filter_append, List.length_append]
    congr 1
    by_cases ha : 0 < ats[n]
    · simp [hg, ha]
    · simp [hg, ha]
theorem Mt.cnt {M : TM} {ats : List Nat} (h : Mt M ats) (hl : ats.length ≤ 190) : Cnt M (above ats.length ats) := by
  refine ⟨((List.range ats.length).filter fun j => decide (0 < ats[j]?.getD 0)).map nm, ?_, fun k => ?_, by rw [List.length_map, above_range (Nat.le_refl _)]⟩
  · unfold List.Nodup
    rw [List.pairwise_map]
    refine List.Pairwise.imp_of_mem ?_ ((List.nodup_range (n := ats.length)).filter _)
    intro i j hi hj hne e
    have hi' := List.mem_range.1 (List.mem_filter.1 hi).1
    have hj' := List.mem_range.1 (List.mem_filter.1 hj).1
    exact hne (nm_inj (by omega) (by omega) e)
  · constructor
    · intro hk
      obtain ⟨j, hj, rfl⟩ := List.mem_map.1 hk
      obtain ⟨h1, h2⟩ := List.mem_filter.1 hj
      have hg : ats[j]? = some (ats[j]'(List.mem_range.1 h1)) := List.getElem?_eq_getElem _
      rw [hg] at h2
      simp only [Option.getD_some, decide_eq_true_eq] at h2
      rw [(h (nm j) _).2 ⟨j, hg, by omega, rfl⟩]; rfl
    · intro hk
      obtain ⟨a, ha⟩ := Option.isSome_iff_exists.1 hk
      obtain ⟨j, h1, h2, rfl⟩ := (h k a).1 ha
      refine List.mem_map.2 ⟨j, List.mem_filter.2 ⟨List.mem_range.2 (lt_of_get h1), ?_⟩, rfl⟩
      rw [h1]
      simp only [Option.getD_some, decide_eq_true_eq]
      omega

/-- What is left behind an advance. -/
def clr (nw : Nat) (ats : List Nat) : List Nat := ats.map fun a => if a ≤ nw then 0 else a
theorem clr_get {nw j : Nat} {ats : List Nat} : (clr nw ats)[j]? = ats[j]?.map fun a => if a ≤ nw then 0 else a := by unfold clr; rw [List.getElem?_map]
theorem Mt.adv {M : TM} {ats : List Nat} (nw : Nat) (h : Mt M ats) : Mt (fun k => (M k).filter fun a => decide (nw < a)) (clr nw ats) := by
  intro k a
  constructor
  · intro hk
    obtain ⟨h1, h2⟩ := Option.filter_eq_some_iff.1 hk
    simp only [decide_eq_true_eq] at h2
    obtain ⟨j, g1, g2, g3⟩ := (h k a).1 h1
    refine ⟨j, by rw [clr_get, g1]; simp; omega, g2, g3⟩
  · rintro ⟨j, h1, h2, h3⟩
    rw [clr_get] at h1
    obtain ⟨b, hb, e⟩ := Option.map_eq_some_iff.1 h1
    have hba : ¬ b ≤ nw := fun hle => by rw [if_pos hle] at e; exact h2 e.symm
    rw [if_neg hba] at e
    subst e
    exact Option.filter_eq_some_iff.2 ⟨(h k b).2 ⟨j, hb, h2, h3⟩, by simp; omega⟩

/-- In the midst of the telling: those of these names are told. -/
def Told (ats : List Nat) (l : List ByteArray) (ats' : List Nat) : Prop := ats'.length = ats.length ∧ ∀ (j a : Nat), ats[j]? = some a → (nm j ∈ l → ats'[j]? = some 0) ∧ (nm j ∉ l → ats'[j]? = some a)
theorem Told.nil (ats : List Nat) : Told ats [] ats := ⟨rfl, fun j a h => ⟨fun hm => absurd hm (by simp), fun _ => h⟩⟩
theorem Told.snoc {ats ats' : List Nat} {l : List ByteArray} {n : Nat} (h : Told ats l ats') (hn : n < ats.length) (hl : ats.length ≤ 190) : Told ats (l ++ [nm n]) (ats'.set n 0) := by
  have hlen := h.1
  refine ⟨by rw [List.length_set]; exact hlen, fun j a hj => ?_⟩
  have hjl := lt_of_get hj
  by_cases e : n = j
  · subst e
    rw [List.getElem?_set_self (by rw [hlen]; exact hn)]
    exact ⟨fun _ => rfl, fun hm => absurd (by simp) hm⟩
  · rw [List.getElem?_set_ne e]
    have hne : nm j ≠ nm n := fun he => e (nm_inj (by omega) (by omega) he).symm
    obtain ⟨h1, h2⟩ := h.2 j a hj
    refine ⟨fun hm => h1 ?_, fun hm => h2 fun hl' => hm (by simp [hl'])⟩
    simpa [hne] using hm
theorem Told.all {M : TM} {ats ats' : List Nat} {ts : List (ByteArray × Nat)} {nw : Nat} (hm : Mt M ats) (hl : ats.length ≤ 190) (hts : Lists (fun k => (M k).filter fun a => decide (a ≤ nw)) ts) (h : Told ats (ts.map (·.1)) ats') : ats' = clr nw ats := by
  apply List.ext_getElem?
  intro j
  rw [clr_get]
  have hlen := h.1
  cases hj : ats[j]? with
  | none =>
    have : ats.length ≤ j := by
      by_cases hlt : j < ats.length
      · rw [List.getElem?_eq_getElem hlt] at hj; cases hj
      · omega
    rw [List.getElem?_eq_none (by omega)]; rfl
  | some a =>
    obtain ⟨k1, k2⟩ := h.2 j a hj
    simp only [Option.map_some]
    have hjl := lt_of_get hj
    by_cases hin : nm j ∈ ts.map (·.1)
    · rw [k1 hin]
      obtain ⟨y, hy, e⟩ := List.mem_map.1 hin
      have hD := (hts.mem y.1 y.2).1 hy
      obtain ⟨h1, h2⟩ := Option.filter_eq_some_iff.1 hD
      simp only [decide_eq_true_eq] at h2
      obtain ⟨i, g1, g2, g3⟩ := (hm _ _).1 h1
      have hij : j = i := nm_inj (by omega) (by have := lt_of_get g1; omega) (e.symm.trans g3)
      subst hij
      rw [hj] at g1
      cases g1
      rw [if_pos h2]
    · rw [k2 hin]
      congr 1
      by_cases hle : a ≤ nw
      · rw [if_pos hle]
        by_cases h0 : a = 0
        · exact h0
        · exact absurd (List.mem_map.2 ⟨(nm j, a), (hts.mem _ _).2 (Option.filter_eq_some_iff.2 ⟨(hm _ _).2 ⟨j, hj, h0, rfl⟩, by simpa using hle⟩), rfl⟩) hin
      · rw [if_neg hle]
end Go.Proofs.Ytpmpclieclcbdaa

/- Numbers in a slice; a name from a number, and back. -/
namespace Go.Proofs.Ytpmpclieclcbdaa
open Go Go.AE Go.Sort

variable {Z : Go.AE.Road}
set_option maxRecDepth 10000

def ucells (l : List Nat) : List Value := l.map fun (x : Nat) => .int .u64 (x : Int)
theorem ucells_len {l : List Nat} : (ucells l).length = l.length := by simp [ucells]
theorem nth_map {α β : Type} {f : α → β} : ∀ {l : List α} {i : Nat} {x : α}, l[i]? = some x → nth (l.map f) i = some (f x)
  | [], i, x, h => by simp at h
  | a :: l, 0, x, h => by simp at h; subst h; rfl
  | a :: l, i + 1, x, h => nth_map (l := l) (i := i) (x := x) (by simpa using h)
theorem ucells_nth {l : List Nat} {i x : Nat} (h : l[i]? = some x) : nth (ucells l) i = some (.int .u64 (x : Int)) := nth_map (f := fun (x : Nat) => Value.int .u64 (x : Int)) h

theorem len23 {A : ASt} {b : Option Addr} {n c : Nat} : aLen E0 23 (.slice b n c) A = some (.int .i64 (n : Int)) := len_sl ti23 t23_desc
theorem ix23 {b len cap k off : Nat} {kd : IntKind} (hk : k < len) : aIndexAddr E0 23 (.slice (some ⟨b, off, none⟩) len cap) (.int kd (k : Int)) = some (.pointer (some ⟨b, off + k, none⟩)) := by
  have := indexAddr_sl (A := { heap := .e, next := 0 }) ti23 t23_desc ti22 (kd := kd) (k := k) (b := b) (off := off) (len := len) (cap := cap) hk
  rwa [t22_size, Nat.mul_one] at this

/-- A slice of these numbers, in a block of its own. -/
def SliceU (A : ASt) (lo : Nat) (v : Value) (l : List Nat) : Prop :=
  (l = [] ∧ v = .slice none 0 0) ∨ ∃ b, v = .slice (some ⟨b, 0, none⟩) l.length unk ∧ A.get b = some (.row (ucells l) 1 true) ∧ lo ≤ b ∧ b < A.next
theorem SliceU.len {A A' : ASt} {lo : Nat} {v : Value} {l : List Nat} (h : SliceU A lo v l) : aLen E0 23 v A' = some (.int .i64 (l.length : Int)) := by
  rcases h with ⟨rfl, rfl⟩ | ⟨b, rfl, _⟩
  · exact len23
  · exact len23
theorem SliceU.ix {A : ASt} {lo : Nat} {v : Value} {l : List Nat} (h : SliceU A lo v l) {i : Nat} (hi : i < l.length) : ∃ b, v = .slice (some ⟨b, 0, none⟩) l.length unk ∧ aIndexAddr E0 23 v (.int .i64 (i : Int)) = some (.pointer (some ⟨b, i, none⟩)) ∧ A.get b = some (.row (ucells l) 1 true) ∧ lo ≤ b ∧ b < A.next := by
  rcases h with ⟨rfl, rfl⟩ | ⟨b, rfl, hb, h1, h2⟩
  · simp at hi
  · exact ⟨b, rfl, by have := ix23 (b := b) (cap := unk) (off := 0) (kd := .i64) hi; rwa [Nat.zero_add] at this, hb, h1, h2⟩
theorem SliceU.fr {A A' : ASt} {lo : Nat} {own : List Nat} {v : Value} {l : List Nat} (h : SliceU A lo v l) (hf : Fr own A A') (ho : ∀ b ∈ own, b < lo) : SliceU A' lo v l := by
  rcases h with ⟨rfl, rfl⟩ | ⟨b, rfl, hb, h1, h2⟩
  · exact .inl ⟨rfl, rfl⟩
  · exact .inr ⟨b, rfl, by rw [hf.get b h2 fun hm => by have := ho b hm; omega]; exact hb, h1, Nat.lt_of_lt_of_le h2 hf.next⟩
theorem ucells_over {l : List Nat} {n x : Nat} (hn : n < l.length) : over (ucells l) n [.int .u64 (x : Int)] = some (ucells (l.set n x)) := by
  unfold over
  have h1 : Nat.ble (n + [Value.int .u64 (x : Int)].length) (ucells l).length = true := Nat.ble_eq_true_of_le (by rw [ucells_len]; exact hn)
  rw [h1]
  show some _ = some _
  congr 1
  unfold ucells
  rw [List.map_set, List.set_eq_take_append_cons_drop, if_pos (by rw [List.length_map]; exact hn)]
  rfl
theorem SliceU.store {A : ASt} {lo b n x : Nat} {l : List Nat} (hb : A.get b = some (.row (ucells l) 1 true)) (hn : n < l.length) : aStore E0 22 (.pointer (some ⟨b, n, none⟩)) (.int .u64 (x : Int)) A = some (A.set b (.row (ucells (l.set n x)) 1 true)) := by
  simp only [aStore, hb, ti22, t22_size, Value.cells, ucells_over hn]
  rfl

theorem t22_bytes : t22.bytes = 8 := by kernel_rfl
theorem bs23 {x : Int} : aBuildSlice E0 23 1 [(0, .int .u64 x)] = some (.row [.int .u64 x] 1 false, fun id => .slice (some ⟨id, 0, none⟩) 1 1) := by
  simp only [aBuildSlice, ti23, t23_desc, ti22, t22_zero, t22_size]; rfl
theorem bs29 {x : Int} : aBuildSlice E0 29 1 [(0, .int .u8 x)] = some (.row [.int .u8 x] 1 false, fun id => .slice (some ⟨id, 0, none⟩) 1 1) := by
  simp only [aBuildSlice, ti29, t29_desc, ti5, t5_zero, t5_size]; rfl
theorem z22a : closed (.int .u64 0) = true := rfl
theorem z22b : Nat.beq (Value.int .u64 0).cells.toList.length 1 = true := rfl
theorem sg1 {a : Int} : singles [.int .u64 a] = true := rfl
theorem cut1 {x : Value} : (bif (List.take (1 * 1) (List.drop 0 [x])).length.beq (1 * 1) then some (List.take (1 * 1) (List.drop 0 [x])) else none) = some [x] := rfl
theorem isl22 : isIntD (.slice 22) = false := rfl
theorem app23_nil {A : ASt} {x : Nat} {a : Int} {tl : Bool} (hx : A.get x = some (.row [.int .u64 a] 1 tl)) :
    aAppend E0 23 23 (.slice none 0 0) (.slice (some ⟨x, 0, none⟩) 1 1) A = .val (.slice (some ⟨A.next, 0, none⟩) 1 unk) (A.new (.row [.int .u64 a] 1 true)) := by
  simp only [aAppend, ti23, t23_desc, ti22, lenV, t22_zero, t22_size, t22_bytes, srcCells, hx, cut, cut1, z22a, z22b, sg1, isl22]
  show appendTo 1 none 0 0 1 [.int .u64 a] A = _
  simp only [appendTo, grown_eq]
  rfl
theorem app23_row {A : ASt} {x b len : Nat} {c : List Value} {a : Int} {tl : Bool} (hx : A.get x = some (.row [.int .u64 a] 1 tl)) (hb : A.get b = some (.row c 1 true)) (hc : c.length = len) (hl : len ≤ 1000000) :
    aAppend E0 23 23 (.slice (some ⟨b, 0, none⟩) len unk) (.slice (some ⟨x, 0, none⟩) 1 1) A = .val (.slice (some ⟨A.next, 0, none⟩) (len + 1) unk) ((A.set b (.row [] 1 false)).new (.row (c ++ [.int .u64 a]) 1 true)) := by
  have h1 : Nat.blt ((len + 1) * (8 + 1)) 1000000000 = true := Nat.ble_eq_true_of_le (by omega)
  have h2 : Nat.ble (0 + len * 1) c.length = true := Nat.ble_eq_true_of_le (by omega)
  have h3 : Nat.ble (0 + (len + 1) * 1) c.length = false := by rw [nble]; simp; omega
  have h4 : Nat.beq (0 + len * 1) c.length = true := by rw [nbeq]; simp; omega
  simp only [aAppend, ti23, t23_desc, ti22, lenV, t22_zero, t22_size, t22_bytes, srcCells, hx, cut, cut1, z22a, z22b, sg1, isl22, h1]
  show appendTo 1 (some ⟨b, 0, none⟩) len unk 1 [.int .u64 a] A = _
  simp only [appendTo, hb, h2, h3, h4, grown_eq, Nat.beq_refl, Bool.and_self, cond_true, cond_false, List.take_zero, List.drop_zero]
  rfl
/-- One more at a slice's end. -/
theorem SliceU.app {A : ASt} {lo x : Nat} {v : Value} {l : List Nat} {a : Nat} {tl : Bool} (h : SliceU A lo v l) (hx : A.get x = some (.row [.int .u64 (a : Int)] 1 tl)) (hl : l.length ≤ 1000000) (hlo : lo ≤ A.next) :
    ∃ v' A', aAppend E0 23 23 v (.slice (some ⟨x, 0, none⟩) 1 1) A = .val v' A' ∧ SliceU A' lo v' (l ++ [a]) ∧ A.next ≤ A'.next ∧ ∀ b, b < lo → A'.get b = A.get b := by
  rcases h with ⟨rfl, rfl⟩ | ⟨b, rfl, hb, h1, h2⟩
  · refine ⟨_, _, app23_nil hx, .inr ⟨A.next, rfl, by rw [ASt.get_new, if_pos rfl]; rfl, hlo, by rw [ASt.next_new]; omega⟩, by rw [ASt.next_new]; omega, fun b hb => by rw [ASt.get_new, if_neg (by omega)]⟩
  · refine ⟨_, _, app23_row hx hb ucells_len hl, .inr ⟨A.next, by rw [List.length_append]; rfl, ?_, hlo, by rw [ASt.next_new, ASt.next_set]; omega⟩, by rw [ASt.next_new, ASt.next_set]; omega, fun b' hb' => ?_⟩
    · rw [ASt.get_new, ASt.next_set, if_pos rfl]
      simp [ucells]
    · rw [ASt.get_new, ASt.next_set, if_neg (by omega), ASt.get_set, if_neg (by omega)]

/-! ### bytes -/
theorem fc35 {s : Spans} {x : Operand} : freshOp (withRo E0 s) (.convert 3 5 x) = false := by kernel_rfl
theorem fc53 {s : Spans} {x : Operand} : freshOp (withRo E0 s) (.convert 5 3 x) = false := by kernel_rfl
theorem fc29 {s : Spans} {x : Operand} : freshOp (withRo E0 s) (.convert 29 9 x) = false := by kernel_rfl
theorem qc35 {s : Spans} {x : Operand} : quietOp (withRo E0 s) (.convert 3 5 x) = true := by kernel_rfl
theorem qc53 {s : Spans} {x : Operand} : quietOp (withRo E0 s) (.convert 5 3 x) = true := by kernel_rfl
theorem qc29 {s : Spans} {x : Operand} : quietOp (withRo E0 s) (.convert 29 9 x) = true := by kernel_rfl
theorem wcv {s : Spans} {a b : TypeId} {x : Value} {A : ASt} : aConvert (withRo E0 s) a b x A = aConvert E0 a b x A := congrArg (fun x => x) rfl
theorem wbs {s : Spans} {t : TypeId} {n : Nat} {l : List (Nat × Value)} : aBuildSlice (withRo E0 s) t n l = aBuildSlice E0 t n l := congrArg (fun x => x) rfl
theorem wapp {s : Spans} {t t' : TypeId} {v x : Value} {A : ASt} : aAppend (withRo E0 s) t t' v x A = aAppend E0 t t' v x A := congrArg (fun x => x) rfl
theorem wst {s : Spans} {t : TypeId} {p v : Value} {A : ASt} : aStore (withRo E0 s) t p v A = aStore E0 t p v A := congrArg (fun x => x) rfl
theorem widx {s : Spans} {t : TypeId} {v x : Value} : aIndex (withRo E0 s) t v x = aIndex E0 t v x := congrArg (fun x => x) rfl
theorem cv35 {n : Int} {A : ASt} : aConvert E0 3 5 (.int .i64 n) A = some (.int .u8 (IntKind.u8.wrap n)) := conv_int ti3 ti5 t5_desc
theorem cv53 {n : Int} {A : ASt} : aConvert E0 5 3 (.int .u8 n) A = some (.int .i64 (IntKind.i64.wrap n)) := conv_int ti5 ti3 t3_desc
theorem wrap8 {i : Nat} (h : i < 190) : IntKind.u8.wrap (IntKind.i64.wrap (65 + (i : Int))) = ((65 + i : Nat) : Int) := by
  have : IntKind.i64.wrap (65 + (i : Int)) = ((65 + i : Nat) : Int) := by rw [IntKind.wrap_i64]; omega
  rw [this]
  show ((65 + i : Nat) : Int) % 256 = _
  omega
theorem cv29 {i b : Nat} {A : ASt} (hi : i < 190) (hb : A.get b = some (.row [.int .u8 ((65 + i : Nat) : Int)] 1 false)) : aConvert E0 29 9 (.slice (some ⟨b, 0, none⟩) 1 1) A = some (.string (nm i)) := by
  refine conv_bytes ti29 ti9 t9_desc t29_desc ti5 t5_desc hb (r := [.int .u8 ((65 + i : Nat) : Int)]) rfl (bs := [UInt8.ofNat (65 + i)]) ?_
  rfl
theorem cv29e {b : Nat} : aConvert E0 29 9 (.slice (some ⟨b, 0, none⟩) 1 1) { heap := .e, next := 0 } = none := by
  simp only [aConvert, ti29, ti9, t9_desc, t29_desc, ti5, t5_desc, get_empty]
theorem ix9 {i : Nat} (hi : i < 190) : aIndex E0 9 (.string (nm i)) (.int .i64 0) = some (.int .u8 ((65 + i : Nat) : Int)) := by
  have := idx_string (E := E0) ti9 t9_desc (kd := .i64) (s := nm i) (k := 0) (b := UInt8.ofNat (65 + i)) rfl
  rw [nm_byte hi] at this
  exact this
end Go.Proofs.Ytpmpclieclcbdaa

/- Scripts, names, two wheels. -/
namespace Go.Proofs.Ytpmpclieclcbdaa
open Go Go.AE Go.Sort

variable {Z : Go.AE.Road}
set_option maxRecDepth 10000
set_option maxHeartbeats 8000000

theorem t40_zero : t40.zero = some (.agg #[.int .i64 0, .string ByteArray.empty, .int .u64 0, .int .u64 0]) := by kernel_rfl
theorem alloc40 : aAlloc E0 40 = some (.row [.int .i64 0, .string ByteArray.empty, .int .u64 0, .int .u64 0] 4 false, ptrTo) := by
  simp only [aAlloc, ti40, t40_zero, t40_size]; rfl
theorem cut4 {a b c d : Value} : cut [a, b, c, d] 0 4 = some [a, b, c, d] := congrArg (fun x => x) rfl
theorem walloc {s : Spans} {t : TypeId} : aAlloc (withRo E0 s) t = aAlloc E0 t := congrArg (fun x => x) rfl
theorem store40 {A : ASt} {b : Nat} {c0 c1 c2 c3 : Value} {tl : Bool} {k : Int} {n : ByteArray} {a c : Nat} (hb : A.get b = some (.row [c0, c1, c2, c3] 4 tl)) : aStore E0 40 (.pointer (some ⟨b, 0, none⟩)) (.agg #[.int .i64 k, .string n, .int .u64 (a : Int), .int .u64 (c : Int)]) A = some (A.set b (.row [.int .i64 k, .string n, .int .u64 (a : Int), .int .u64 (c : Int)] 4 tl)) := by
  simp only [aStore, hb, ti40, t40_size, Value.cells]
  rfl
theorem putW_abs {n : Nat} {T : Tmps} {d : Tmp} {v : Value} {K : Tmps → Prop} (P : Tmps → Prop) (hd : d < n) (hP : P (T.put d (some v))) (h : ∀ T', P T' → K T') : putW n T (some d) v K := ⟨hd, h _ hP⟩
theorem box38 {k a : Value} : aBox E0 38 (.agg #[k, a]) = some (.row [k, a] 2 false, ptrTo) := by
  simp only [aBox, ti38, t38_size]; rfl
theorem wix38 {b k off : Nat} (hk : k < 2) : aIndexAddr E0 38 (.pointer (some ⟨b, off, none⟩)) (.int .i64 (k : Int)) = some (.pointer (some ⟨b, off + k, none⟩)) := by
  have := indexAddr_arr (A := { heap := .e, next := 0 }) ti38 t38_desc ti22 (kd := .i64) (k := k) (b := b) (off := off) hk
  rw [t22_size, Nat.mul_one] at this
  exact this
theorem lat_lt {n b : Nat} (hn : n < 18446744073709551616) : lat n b < 18446744073709551616 := by
  unfold lat
  split <;> omega
theorem lat_ge {n b : Nat} (hn : n < 18446744073709551616) : n ≤ lat n b := by
  unfold lat
  split <;> omega

/-- At most so many names. -/
def Upto (M : TM) (n : Nat) : Prop := ∃ l : List ByteArray, l.length ≤ n ∧ ∀ k, (M k).isSome = true → k ∈ l
theorem Upto.mono {M : TM} {n m : Nat} (h : Upto M n) (hn : n ≤ m) : Upto M m := let ⟨l, h1, h2⟩ := h; ⟨l, Nat.le_trans h1 hn, h2⟩
theorem Upto.few {M : TM} {n : Nat} (h : Upto M n) (hn : n ≤ 1000) : Few M := let ⟨l, h1, h2⟩ := h; ⟨l, Nat.le_trans h1 hn, h2⟩
theorem Upto.del {M : TM} {n : Nat} (h : Upto M n) (k : ByteArray) : Upto (M.del k) n := by
  obtain ⟨l, h1, h2⟩ := h
  refine ⟨l, h1, fun j hj => h2 j ?_⟩
  unfold TM.del at hj
  split at hj
  · cases hj
  · exact hj
theorem Upto.put {M : TM} {n : Nat} (h : Upto M n) (k : ByteArray) (a : Nat) : Upto (M.put k a) (n + 1) := by
  obtain ⟨l, h1, h2⟩ := h
  refine ⟨k :: l, by simp; omega, fun j hj => ?_⟩
  unfold TM.put at hj
  by_cases e : j = k
  · simp [e]
  · rw [if_neg e] at hj
    simp [h2 j hj]
theorem Upto.filter {M : TM} {n : Nat} (h : Upto M n) (p : Nat → Bool) : Upto (fun k => (M k).filter p) n := by
  obtain ⟨l, h1, h2⟩ := h
  refine ⟨l, h1, fun j hj => h2 j ?_⟩
  have hj : ((M j).filter p).isSome = true := hj
  cases hm : M j with
  | none => rw [hm] at hj; cases hj
  | some a => rfl

theorem cnt_upto {M : TM} {n k : Nat} (h : Cnt M n) (hu : Upto M k) : n ≤ k := by
  obtain ⟨l, h1, h2, h3⟩ := h
  obtain ⟨r, g1, g2⟩ := hu
  have := nodup_leG h1 fun x hx => g2 x ((h2 x).1 hx)
  omega
theorem WheelAt.nn {A : ASt} {W all now : Nat} {ms : List Nat} {M : TM} (h : WheelAt A W all ms now M) {b : Nat} (hb : A.get b = none) : b ∉ W :: all :: ms := by
  intro hm
  simp only [List.mem_cons] at hm
  rcases hm with e | e | e
  · have := h.row
    rw [← e, hb] at this
    cases this
  · obtain ⟨l, ck, hl, _⟩ := h.allm
    rw [← e, hb] at hl
    cases hl
  · obtain ⟨j, hj⟩ := List.getElem?_of_mem e
    obtain ⟨l, ck, hl, _⟩ := h.slot j b hj
    rw [hb] at hl
    cases hl

/-- Two wheels, side by side. -/
structure Duo (A : ASt) (W1 a1 : Nat) (m1 : List Nat) (W2 a2 : Nat) (m2 : List Nat) (n1 n2 : Nat) (M1 M2 : TM) : Prop where
  w1 : WheelAt A W1 a1 m1 n1 M1
  w2 : WheelAt A W2 a2 m2 n2 M2
  dis : ∀ b ∈ W1 :: a1 :: m1, b ∉ W2 :: a2 :: m2
section
variable {A A' : ASt} {W1 a1 W2 a2 n1 n2 : Nat} {m1 m2 : List Nat} {M1 M2 : TM}
theorem Duo.left {n' : Nat} {M' : TM} (h : Duo A W1 a1 m1 W2 a2 m2 n1 n2 M1 M2) (f : Fr (W1 :: a1 :: m1) A A') (hw : WheelAt A' W1 a1 m1 n' M') : Duo A' W1 a1 m1 W2 a2 m2 n' n2 M' M2 :=
  ⟨hw, h.w2.congr f.next (fun b hb => f.get b (h.w2.below b hb) fun hm => h.dis b hm hb), h.dis⟩
theorem Duo.right {n' : Nat} {M' : TM} (h : Duo A W1 a1 m1 W2 a2 m2 n1 n2 M1 M2) (f : Fr (W2 :: a2 :: m2) A A') (hw : WheelAt A' W2 a2 m2 n' M') : Duo A' W1 a1 m1 W2 a2 m2 n1 n' M1 M' :=
  ⟨h.w1.congr f.next (fun b hb => f.get b (h.w1.below b hb) fun hm => h.dis b hb hm), hw, h.dis⟩
theorem Duo.still (h : Duo A W1 a1 m1 W2 a2 m2 n1 n2 M1 M2) (hn : A.next ≤ A'.next) (hg : ∀ b, b < A.next → A'.get b = A.get b) : Duo A' W1 a1 m1 W2 a2 m2 n1 n2 M1 M2 :=
  ⟨h.w1.congr hn (fun b hb => hg b (h.w1.below b hb)), h.w2.congr hn (fun b hb => hg b (h.w2.below b hb)), h.dis⟩
theorem Duo.fr (h : Duo A W1 a1 m1 W2 a2 m2 n1 n2 M1 M2) (f : Fr [] A A') : Duo A' W1 a1 m1 W2 a2 m2 n1 n2 M1 M2 := h.still f.next fun b hb => f.get b hb (by simp)
end
theorem SliceAt.fr {A A' : ASt} {lo : Nat} {own : List Nat} {v : Value} {ts : List (ByteArray × Nat)} (h : SliceAt A lo v ts) (hf : Fr own A A') (ho : ∀ b ∈ own, b < lo) : SliceAt A' lo v ts := by
  rcases h with h | ⟨b, cap, rest, tl, rfl, hb, h1, h2, h3⟩
  · exact .inl h
  · exact .inr ⟨b, cap, rest, tl, rfl, by rw [hf.get b h2 fun hm => by have := ho b hm; omega]; exact hb, h1, Nat.lt_of_lt_of_le h2 hf.next, h3⟩
theorem SliceAt.low {A : ASt} {lo lo' : Nat} {v : Value} {ts : List (ByteArray × Nat)} (h : SliceAt A lo v ts) (hl : lo' ≤ lo) : SliceAt A lo' v ts := by
  rcases h with h | ⟨b, cap, rest, tl, e, hb, h1, h2⟩
  · exact .inl h
  · exact .inr ⟨b, cap, rest, tl, e, hb, Nat.le_trans hl h1, h2⟩
theorem SliceAt.ix2 {A : ASt} {lo : Nat} {v : Value} {ts : List (ByteArray × Nat)} (h : SliceAt A lo v ts) (hne : 0 < ts.length) : ∃ b rest tl, (∀ i : Nat, i < ts.length → aIndexAddr E0 30 v (.int .i64 (i : Int)) = some (.pointer (some ⟨b, i * 2, none⟩))) ∧ A.get b = some (.row (tcells ts ++ rest) 2 tl) ∧ lo ≤ b := by
  rcases h with ⟨rfl, rfl⟩ | ⟨b, cap, rest, tl, rfl, hb, h1, _⟩
  · simp at hne
  · exact ⟨b, rest, tl, fun i hi => by have := ix30 (b := b) (cap := cap) (off := 0) hi; rwa [Nat.zero_add] at this, hb, h1⟩
theorem vq33 {k : ByteArray} {a : Nat} : valEq (.agg #[.string k, .int .u64 (a : Int)]) (.agg #[.string k, .int .u64 (a : Int)]) = true := by
  unfold valEq vEq
  show (vStep (vStep (vStep flatEq)) (.string k) (.string k) && (vStep (vStep (vStep flatEq)) (.int .u64 (a : Int)) (.int .u64 (a : Int)) && true)) = true
  simp [vStep, flatEq, bytesEq_iff]
theorem SliceAt.ve {A : ASt} {lo : Nat} {v : Value} {ts : List (ByteArray × Nat)} (h : SliceAt A lo v ts) : valEq v v = true := by
  rcases h with ⟨_, rfl⟩ | ⟨b, cap, _, _, rfl, _⟩
  · exact valEq_nilSlice
  · exact valEq_slice
theorem ro_none {s : Spans} {b : Nat} (h : s.length ≤ b) : (withRo E0 s).ro b = none := by
  show roTab s b = none
  unfold roTab
  rw [List.getElem?_eq_none h]; rfl

end Go.Proofs.Ytpmpclieclcbdaa

/- The wheel: what stands ahead is due ahead. Plain. -/
namespace Go.Proofs.Ytpmpclieclcbdaa
open Go Go.AE

/-- The top bit in which a deadline above the clock differs. -/
theorem top_of {now a : Nat} (hnow : now < 18446744073709551616) (ha : a < 18446744073709551616) (hlt : now < a) : ∃ t, lvl now a = t / 4 ∧ a.testBit t = true ∧ now.testBit t = false ∧ ∀ j, t < j → a.testBit j = now.testBit j := by
  have hx : a ^^^ now < 18446744073709551616 := Nat.xor_lt_two_pow (n := 64) (by omega) (by omega)
  have hx0 : a ^^^ now ≠ 0 := fun e => by
    have : a = now := by
      apply Nat.eq_of_testBit_eq
      intro i
      have := congrArg (fun z => z.testBit i) e
      simp only [Nat.testBit_xor, Nat.zero_testBit] at this
      simpa using this
    omega
  obtain ⟨b1, b2, b3⟩ := bl_bounds hx hx0
  obtain ⟨t, ht⟩ : ∃ t, Lib.bitLen (a ^^^ now) = t + 1 := ⟨_, (Nat.sub_add_cancel b1).symm⟩
  rw [ht, Nat.add_sub_cancel] at b2
  rw [ht] at b3
  have xt := bit_top b2 b3
  have xz : ∀ j, t < j → (a ^^^ now).testBit j = false := fun j hj => Nat.testBit_lt_two_pow (Nat.lt_of_lt_of_le b3 (Nat.pow_le_pow_right (by omega) hj))
  have up : ∀ j, t < j → a.testBit j = now.testBit j := fun j hj => by
    have := xz j hj
    rw [Nat.testBit_xor] at this
    simpa using this
  rw [Nat.testBit_xor] at xt
  have hat : a.testBit t = true := by
    cases hb : a.testBit t with
    | true => rfl
    | false =>
      rw [hb, Bool.false_xor] at xt
      have := lt_bit t hb xt up
      omega
  rw [hat, Bool.true_xor, Bool.not_eq_true'] at xt
  exact ⟨t, by unfold lvl; rw [ht, Nat.add_sub_cancel], hat, xt, up⟩

theorem div_eq_of_bits {x y s : Nat} (h : ∀ j, s ≤ j → x.testBit j = y.testBit j) : x / 2 ^ s = y / 2 ^ s := by
  apply Nat.eq_of_testBit_eq
  intro i
  rw [Nat.testBit_div_two_pow, Nat.testBit_div_two_pow]
  exact h _ (by omega)

/-- Of a lower level: due ahead; of one level: of a lower slot. -/
theorem plc_lt_lt {now a b : Nat} (hnow : now < 18446744073709551616) (ha : a < 18446744073709551616) (hb : b < 18446744073709551616) (h1 : now < a) (h2 : now < b) (h : plc now a < plc now b) : a < b := by
  obtain ⟨s, s1, s2, s3, s4⟩ := top_of hnow ha h1
  obtain ⟨t, t1, t2, t3, t4⟩ := top_of hnow hb h2
  by_cases hl : lvl now a < lvl now b
  · -- b's top bit stands above a's
    have hst : s < t := by omega
    exact lt_bit t (by rw [s4 t hst]; exact t3) t2 fun j hj => by rw [s4 j (by omega), t4 j hj]
  · have ma : a / 2 ^ (4 * lvl now a) % 16 < 16 := Nat.mod_lt _ (by omega)
    have mb : b / 2 ^ (4 * lvl now b) % 16 < 16 := Nat.mod_lt _ (by omega)
    have hab : lvl now a < 4 ∧ lvl now a = lvl now b ∧ a / 2 ^ (4 * lvl now a) % 16 < b / 2 ^ (4 * lvl now b) % 16 := by
      unfold plc at h
      split at h <;> split at h <;> omega
    obtain ⟨_, e, hd⟩ := hab
    rw [← e] at hd
    have hhi : a / 2 ^ (4 * lvl now a + 4) = b / 2 ^ (4 * lvl now a + 4) := div_eq_of_bits fun j hj => by rw [s4 j (by omega), t4 j (by omega)]
    have q1 : a / 2 ^ (4 * lvl now a) / 16 = a / 2 ^ (4 * lvl now a + 4) := by rw [Nat.pow_add, Nat.div_div_eq_div_mul]
    have q2 : b / 2 ^ (4 * lvl now a) / 16 = b / 2 ^ (4 * lvl now a + 4) := by rw [Nat.pow_add, Nat.div_div_eq_div_mul]
    have h3 : a / 2 ^ (4 * lvl now a) < b / 2 ^ (4 * lvl now a) := by omega
    exact Nat.lt_of_not_le fun hle => by have := Nat.div_le_div_right (c := 2 ^ (4 * lvl now a)) hle; omega
theorem plc_le64 {now a : Nat} : plc now a ≤ 64 := by
  unfold plc
  split
  · omega
  · have : a / 2 ^ (4 * lvl now a) % 16 < 16 := Nat.mod_lt _ (by omega)
    omega
end Go.Proofs.Ytpmpclieclcbdaa
