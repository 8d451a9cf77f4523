/- The wheel's New, and later. -/
import Derived.Test.YtpmpclieclcbdaaP06
import Derived.Shelf.SlSortCmp.NoneTotal
import Derived.Test.YtpmpclieclcbdaaQ2
set_option linter.unusedSimpArgs false
set_option linter.unusedVariables false
set_option linter.unusedSectionVars false
namespace Go.Proofs.Ytpmpclieclcbdaa
open Go Go.AE

variable {Z : Go.AE.Road}
set_option maxRecDepth 10000

/-- A new wheel's cells, so far. -/
def nrow (now all far : Nat) (l : List Nat) : List Value := .int .u64 (now : Int) :: .map (some all) :: (l.map (fun i => Value.map (some i)) ++ (List.replicate (64 - l.length) (.map none) ++ [.map (some far)]))

theorem build63 {n : Int} {a f : Nat} : aBuild E0 63 [(0, .int .u64 n), (1, .map (some a)), (3, .map (some f))] = some (.agg (.int .u64 n :: .map (some a) :: (List.replicate 64 (.map none) ++ [.map (some f)])).toArray) := by kernel_rfl
theorem box63 {cs : Array Value} : aBox E0 63 (.agg cs) = some (.row cs.toList 67 false, ptrTo) := by
  simp only [aBox, ti63, t63_size]; rfl
theorem over_set {l : List Value} {i : Nat} {v : Value} (h : i < l.length) : over l i [v] = some (l.set i v) := by
  unfold over
  rw [show Nat.ble (i + [v].length) l.length = true from Nat.ble_eq_true_of_le (by simp; omega), cond_true]
  rw [List.set_eq_take_append_cons_drop, if_pos h]
  rfl
theorem nrow_set {now all far : Nat} {l : List Nat} {m : Nat} (h : l.length < 64) : (nrow now all far l).set (2 + l.length) (.map (some m)) = nrow now all far (l ++ [m]) := by
  unfold nrow
  rw [show 2 + l.length = (l.length + 1) + 1 by omega, List.set_cons_succ, List.set_cons_succ, List.set_append_right _ _ (by simp)]
  have e : 64 - l.length = (63 - l.length) + 1 := by omega
  have e2 : 64 - (l ++ [m]).length = 63 - l.length := by simp only [List.length_append, List.length_cons, List.length_nil]; omega
  rw [e2, e, List.replicate_succ]
  simp
theorem storeSlot {A : ASt} {W now all far m off : Nat} {l : List Nat} (h : A.get W = some (.row (nrow now all far l) 67 false)) (hl : l.length < 64) (ho : off = 2 + l.length) : aStore E0 59 (.pointer (some ⟨W, off, none⟩)) (.map (some m)) A = some (A.set W (.row (nrow now all far (l ++ [m])) 67 false)) := by
  subst ho
  rw [← nrow_set hl]
  exact aStore_row h ti59 (by rw [t59_size]; rfl) rfl (over_set (by simp [nrow]; omega))

/-- A new wheel in the making. -/
structure Mk (A0 A : ASt) (W all far now : Nat) (l : List Nat) : Prop where
  row : A.get W = some (.row (nrow now all far l) 67 false)
  maps : ∀ m ∈ all :: far :: l, A.get m = some (.map [] 0)
  nodup : (W :: all :: far :: l).Nodup
  below : ∀ b ∈ W :: all :: far :: l, b < A.next
  new : ∀ b ∈ W :: all :: far :: l, A0.next ≤ b
  fr : Fr [] A0 A

theorem new_walk2 {A : ASt} {now : Nat} (hnow : now < 18446744073709551616) : CallW Z Try.prog 10 [.int .u64 (now : Int)] A (fun v A' => ∃ W all ms, v = .pointer (some ⟨W, 0, none⟩) ∧ WheelAt A' W all ms now (fun _ => none) ∧ Fr [] A A' ∧ ∀ b ∈ W :: all :: ms, A.next ≤ b) := by
  refine CallW.of_code E0_ok E0_ro fn10 rfl (n := 28) rfl (rs := [.tmp 2]) rfl (by simp) (codeW_ok E0_ok E0_ro ?_)
  simp only [oneW_next, s_0, s_1, s_2, s_3, s_4, Hands, handsV, resultsV, oneOrTuple, argsT, ev, evs, evPairs, evOpt, closed, flat, nth, aCall, aEnter, notYield, aNilCheck, aLoad, partV, isAggD, aFieldAddr, aField, aExtract, Option.isNone, aBuiltin, cond_true, cond_false, cond_dec, if_true, if_false, List.length_cons, List.length_nil, forall_const, implies_true, List.append_nil, List.cons_append, List.nil_append, eq_self, Nat.reduceEqDiff, Nat.reduceAdd, Nat.reduceMul, Nat.reduceSub, Nat.reduceLT, Nat.reduceLeDiff, Nat.reduceBEq, reduceIte, reduceCtorEq, ti63, t63_desc, t63_size, ti25, t25_desc, ti22, t22_desc, t22_size, ti59, t59_desc, t59_size, ti60, t60_desc, t60_size, ti61, t61_desc, t61_size, ti3, t3_desc, t3_size, ti40, t40_desc, t40_size, ti33, t33_desc, t33_size, ti9, t9_desc, t9_size, wrow_now, wrow_all, eqnil25, fn17, fn26, fn27, fn28, fn29, fn38, fn39, fn12, fn14, fn15, build63, box63, ptrTo]
  generalize hCd : ASt.new (ASt.new (ASt.new A _) _) _ = C
  have hCg : ∀ b, C.get b = if b = A.next + 1 + 1 then some (.row (nrow now A.next (A.next + 1) []) 67 false) else if b = A.next + 1 then some (.map [] 0) else if b = A.next then some (.map [] 0) else A.get b := fun b => by
    rw [← hCd]
    simp only [ASt.get_new, ASt.next_new]
    rfl
  have hCn : C.next = A.next + 3 := by rw [← hCd]; simp only [ASt.next_new]
  clear hCd
  have hmk : Mk A C (A.next + 1 + 1) A.next (A.next + 1) now [] := by
    refine ⟨by rw [hCg, if_pos rfl], fun m hm => ?_, by simp; omega, fun b hb => ?_, fun b hb => ?_, by omega, fun b hb _ => ?_⟩
    · simp only [List.mem_cons, List.not_mem_nil, or_false] at hm
      rcases hm with rfl | rfl
      · rw [hCg, if_neg (by omega), if_neg (by omega), if_pos rfl]
      · rw [hCg, if_neg (by omega), if_pos rfl]
    · simp only [List.mem_cons, List.not_mem_nil, or_false] at hb
      omega
    · simp only [List.mem_cons, List.not_mem_nil, or_false] at hb
      omega
    · rw [hCg, if_neg (by omega), if_neg (by omega), if_neg (by omega)]
  generalize A.next + 1 + 1 = W at hmk ⊢
  generalize A.next + 1 = far at hmk ⊢
  generalize hall : A.next = all at hmk ⊢
  refine CodeW.mono (Q := fun o => ∃ T' A' l, o = .fr ⟨.exit 0, T', A'⟩ ∧ tget T' 3 = .pointer (some ⟨W, 0, none⟩) ∧ Mk A A' W all far now l ∧ l.length = 64) ?_ ?_
  · refine CodeW.loopR (k := 4) (fun k T A' => ∃ L l, k = 4 - L ∧ L ≤ 4 ∧ tget T 11 = .int .i64 (L : Int) ∧ tget T 3 = .pointer (some ⟨W, 0, none⟩) ∧ Mk A A' W all far now l ∧ l.length = 16 * L) ?_ ⟨0, [], rfl, by omega, ?_, ?_, hmk, rfl⟩
    · rintro k T1 A1 ⟨L, l, rfl, h4, t11, t3, hm, hl⟩
      refine codeW_ok E0_ok E0_ro ?_
      simp only [oneW_next, s_0, s_1, s_2, s_3, s_4, Hands, handsV, resultsV, oneOrTuple, argsT, ev, evs, evPairs, evOpt, closed, flat, nth, aCall, aEnter, notYield, aNilCheck, aLoad, partV, isAggD, aFieldAddr, aField, aExtract, Option.isNone, aBuiltin, cond_true, cond_false, cond_dec, if_true, if_false, List.length_cons, List.length_nil, forall_const, implies_true, List.append_nil, List.cons_append, List.nil_append, eq_self, Nat.reduceEqDiff, Nat.reduceAdd, Nat.reduceMul, Nat.reduceSub, Nat.reduceLT, Nat.reduceLeDiff, Nat.reduceBEq, reduceIte, reduceCtorEq, ti63, t63_desc, t63_size, ti25, t25_desc, ti22, t22_desc, t22_size, ti59, t59_desc, t59_size, ti60, t60_desc, t60_size, ti61, t61_desc, t61_size, ti3, t3_desc, t3_size, ti40, t40_desc, t40_size, ti33, t33_desc, t33_size, ti9, t9_desc, t9_size, wrow_now, wrow_all, eqnil25, fn17, fn26, fn27, fn28, fn29, fn38, fn39, fn12, fn14, fn15, t11]
      refine brW_dec (fun hl4 => ?_) (fun hl4 => ?_)
      · have hl4' : L < 4 := by omega
        simp only [oneW_next, s_0, s_1, s_2, s_3, s_4, Hands, handsV, resultsV, oneOrTuple, argsT, ev, evs, evPairs, evOpt, closed, flat, nth, aCall, aEnter, notYield, aNilCheck, aLoad, partV, isAggD, aFieldAddr, aField, aExtract, Option.isNone, aBuiltin, cond_true, cond_false, cond_dec, if_true, if_false, List.length_cons, List.length_nil, forall_const, implies_true, List.append_nil, List.cons_append, List.nil_append, eq_self, Nat.reduceEqDiff, Nat.reduceAdd, Nat.reduceMul, Nat.reduceSub, Nat.reduceLT, Nat.reduceLeDiff, Nat.reduceBEq, reduceIte, reduceCtorEq, ti63, t63_desc, t63_size, ti25, t25_desc, ti22, t22_desc, t22_size, ti59, t59_desc, t59_size, ti60, t60_desc, t60_size, ti61, t61_desc, t61_size, ti3, t3_desc, t3_size, ti40, t40_desc, t40_size, ti33, t33_desc, t33_size, ti9, t9_desc, t9_size, wrow_now, wrow_all, eqnil25, fn17, fn26, fn27, fn28, fn29, fn38, fn39, fn12, fn14, fn15, t11]
        refine CodeW.mono (Q := fun o => ∃ T' A' l, o = .fr ⟨.exit 2, T', A'⟩ ∧ tget T' 11 = .int .i64 (L : Int) ∧ tget T' 3 = .pointer (some ⟨W, 0, none⟩) ∧ Mk A A' W all far now l ∧ l.length = 16 * L + 16) ?_ ?_
        · refine CodeW.loopR (k := 16) (fun k T A' => ∃ j l, k = 16 - j ∧ j ≤ 16 ∧ tget T 14 = .int .i64 (j : Int) ∧ tget T 4 = .int .i64 (L : Int) ∧ tget T 11 = .int .i64 (L : Int) ∧ tget T 3 = .pointer (some ⟨W, 0, none⟩) ∧ Mk A A' W all far now l ∧ l.length = 16 * L + j) ?_ ⟨0, l, rfl, by omega, ?_, ?_, ?_, ?_, hm, hl⟩
          · rintro k T2 A2 ⟨j, l2, rfl, hj, u14, u4, u11, u3, hm2, hl2⟩
            refine codeW_ok E0_ok E0_ro ?_
            simp only [oneW_next, s_0, s_1, s_2, s_3, s_4, Hands, handsV, resultsV, oneOrTuple, argsT, ev, evs, evPairs, evOpt, closed, flat, nth, aCall, aEnter, notYield, aNilCheck, aLoad, partV, isAggD, aFieldAddr, aField, aExtract, Option.isNone, aBuiltin, cond_true, cond_false, cond_dec, if_true, if_false, List.length_cons, List.length_nil, forall_const, implies_true, List.append_nil, List.cons_append, List.nil_append, eq_self, Nat.reduceEqDiff, Nat.reduceAdd, Nat.reduceMul, Nat.reduceSub, Nat.reduceLT, Nat.reduceLeDiff, Nat.reduceBEq, reduceIte, reduceCtorEq, ti63, t63_desc, t63_size, ti25, t25_desc, ti22, t22_desc, t22_size, ti59, t59_desc, t59_size, ti60, t60_desc, t60_size, ti61, t61_desc, t61_size, ti3, t3_desc, t3_size, ti40, t40_desc, t40_size, ti33, t33_desc, t33_size, ti9, t9_desc, t9_size, wrow_now, wrow_all, eqnil25, fn17, fn26, fn27, fn28, fn29, fn38, fn39, fn12, fn14, fn15, u14]
            refine brW_dec (fun hj6 => ?_) (fun hj6 => ?_)
            · have hj6' : j < 16 := by omega
              have ei1 : ∀ o, aIndexAddr E0 61 (.pointer (some ⟨W, o, none⟩)) (.int .i64 (L : Int)) = some (.pointer (some ⟨W, o + L * 16, none⟩)) := fun o => by
                have := indexAddr_arr (A := A2) ti61 t61_desc ti60 (kd := .i64) (k := L) (b := W) (off := o) hl4'
                rwa [t60_size] at this
              have ei2 : ∀ o, aIndexAddr E0 60 (.pointer (some ⟨W, o, none⟩)) (.int .i64 (j : Int)) = some (.pointer (some ⟨W, o + j, none⟩)) := fun o => by
                have := indexAddr_arr (A := A2) ti60 t60_desc ti59 (kd := .i64) (k := j) (b := W) (off := o) hj6'
                rwa [t59_size, Nat.mul_one] at this
              have hWb : W < A2.next := hm2.below W (by simp)
              have hrow : (A2.new (.map [] 0)).get W = some (.row (nrow now all far l2) 67 false) := by rw [ASt.get_new, if_neg (by omega)]; exact hm2.row
              have hst := storeSlot (m := A2.next) (off := 2 + L * 16 + j) hrow (by omega) (by omega)
              simp only [oneW_next, s_0, s_1, s_2, s_3, s_4, Hands, handsV, resultsV, oneOrTuple, argsT, ev, evs, evPairs, evOpt, closed, flat, nth, aCall, aEnter, notYield, aNilCheck, aLoad, partV, isAggD, aFieldAddr, aField, aExtract, Option.isNone, aBuiltin, cond_true, cond_false, cond_dec, if_true, if_false, List.length_cons, List.length_nil, forall_const, implies_true, List.append_nil, List.cons_append, List.nil_append, eq_self, Nat.reduceEqDiff, Nat.reduceAdd, Nat.reduceMul, Nat.reduceSub, Nat.reduceLT, Nat.reduceLeDiff, Nat.reduceBEq, reduceIte, reduceCtorEq, ti63, t63_desc, t63_size, ti25, t25_desc, ti22, t22_desc, t22_size, ti59, t59_desc, t59_size, ti60, t60_desc, t60_size, ti61, t61_desc, t61_size, ti3, t3_desc, t3_size, ti40, t40_desc, t40_size, ti33, t33_desc, t33_size, ti9, t9_desc, t9_size, wrow_now, wrow_all, eqnil25, fn17, fn26, fn27, fn28, fn29, fn38, fn39, fn12, fn14, fn15, u14, u4, u3, ei1, ei2, hst, wrap_succ (show j < 1000000 by omega)]
              have hne : ∀ b ∈ W :: all :: far :: l2, b ≠ A2.next := fun b hb => by have := hm2.below b hb; omega
              have hnd := hm2.nodup
              refine ⟨16 - (j + 1), by omega, j + 1, l2 ++ [A2.next], rfl, by omega, rfl, u11, ⟨by rw [ASt.get_set, if_pos rfl], fun m hmm => ?_, ?_, fun b hb => ?_, fun b hb => ?_, ?_, fun b hb hn => ?_⟩, by simp; omega⟩
              · simp only [List.nodup_cons, List.mem_cons, not_or] at hnd
                simp only [List.mem_cons, List.mem_append, List.not_mem_nil, or_false] at hmm
                have hmW : m ≠ W := by
                  rcases hmm with rfl | rfl | hmm | rfl
                  · exact Ne.symm hnd.1.1
                  · exact Ne.symm hnd.1.2.1
                  · exact fun e => hnd.1.2.2 (e ▸ hmm)
                  · omega
                rw [ASt.get_set, if_neg hmW, ASt.get_new]
                by_cases e : m = A2.next
                · rw [if_pos e]
                · rw [if_neg e]
                  exact hm2.maps m (by simp; rcases hmm with h | h | h | h <;> simp_all)
              · rw [show W :: all :: far :: (l2 ++ [A2.next]) = (W :: all :: far :: l2) ++ [A2.next] by simp, List.nodup_append]
                refine ⟨hnd, by simp, fun a ha b hb e => ?_⟩
                rw [List.mem_singleton.1 hb] at e
                exact hne a ha e
              · show b < A2.next + 1
                rw [show W :: all :: far :: (l2 ++ [A2.next]) = (W :: all :: far :: l2) ++ [A2.next] by simp, List.mem_append] at hb
                rcases hb with hb | hb
                · have := hm2.below b hb; omega
                · rw [List.mem_singleton.1 hb]; omega
              · rw [show W :: all :: far :: (l2 ++ [A2.next]) = (W :: all :: far :: l2) ++ [A2.next] by simp, List.mem_append] at hb
                rcases hb with hb | hb
                · exact hm2.new b hb
                · rw [List.mem_singleton.1 hb]; exact hm2.fr.next
              · show A.next ≤ A2.next + 1
                have := hm2.fr.next; omega
              · have h1 := hm2.new W (by simp)
                have h2 := hm2.fr.next
                rw [ASt.get_set, if_neg (by omega), ASt.get_new, if_neg (by omega)]
                exact hm2.fr.get b hb hn
            · have e16 : j = 16 := by omega
              subst e16
              simp only [oneW_next, s_0, s_1, s_2, s_3, s_4, Hands, handsV, resultsV, oneOrTuple, argsT, ev, evs, evPairs, evOpt, closed, flat, nth, aCall, aEnter, notYield, aNilCheck, aLoad, partV, isAggD, aFieldAddr, aField, aExtract, Option.isNone, aBuiltin, cond_true, cond_false, cond_dec, if_true, if_false, List.length_cons, List.length_nil, forall_const, implies_true, List.append_nil, List.cons_append, List.nil_append, eq_self, Nat.reduceEqDiff, Nat.reduceAdd, Nat.reduceMul, Nat.reduceSub, Nat.reduceLT, Nat.reduceLeDiff, Nat.reduceBEq, reduceIte, reduceCtorEq, ti63, t63_desc, t63_size, ti25, t25_desc, ti22, t22_desc, t22_size, ti59, t59_desc, t59_size, ti60, t60_desc, t60_size, ti61, t61_desc, t61_size, ti3, t3_desc, t3_size, ti40, t40_desc, t40_size, ti33, t33_desc, t33_size, ti9, t9_desc, t9_size, wrow_now, wrow_all, eqnil25, fn17, fn26, fn27, fn28, fn29, fn38, fn39, fn12, fn14, fn15]
              refine ⟨_, _, l2, rfl, ?_, ?_, hm2, hl2⟩
              · simp only [tget_put, Nat.reduceEqDiff, if_false, reduceIte]; exact u11
              · simp only [tget_put, Nat.reduceEqDiff, if_false, reduceIte]; exact u3
          · simp only [tget_put, Nat.reduceEqDiff, if_false, if_true, reduceIte]; rfl
          · simp only [tget_put, Nat.reduceEqDiff, if_false, if_true, reduceIte]
          · simp only [tget_put, Nat.reduceEqDiff, if_false, if_true, reduceIte]; exact t11
          · simp only [tget_put, Nat.reduceEqDiff, if_false, if_true, reduceIte]; exact t3
        · rintro o ⟨T', A', l', rfl, u11, u3, hm', hl'⟩
          simp only [oneW_next, s_0, s_1, s_2, s_3, s_4, Hands, handsV, resultsV, oneOrTuple, argsT, ev, evs, evPairs, evOpt, closed, flat, nth, aCall, aEnter, notYield, aNilCheck, aLoad, partV, isAggD, aFieldAddr, aField, aExtract, Option.isNone, aBuiltin, cond_true, cond_false, cond_dec, if_true, if_false, List.length_cons, List.length_nil, forall_const, implies_true, List.append_nil, List.cons_append, List.nil_append, eq_self, Nat.reduceEqDiff, Nat.reduceAdd, Nat.reduceMul, Nat.reduceSub, Nat.reduceLT, Nat.reduceLeDiff, Nat.reduceBEq, reduceIte, reduceCtorEq, ti63, t63_desc, t63_size, ti25, t25_desc, ti22, t22_desc, t22_size, ti59, t59_desc, t59_size, ti60, t60_desc, t60_size, ti61, t61_desc, t61_size, ti3, t3_desc, t3_size, ti40, t40_desc, t40_size, ti33, t33_desc, t33_size, ti9, t9_desc, t9_size, wrow_now, wrow_all, eqnil25, fn17, fn26, fn27, fn28, fn29, fn38, fn39, fn12, fn14, fn15, u11, wrap_succ (show L < 1000000 by omega)]
          exact ⟨4 - (L + 1), by omega, L + 1, l', rfl, by omega, rfl, u3, hm', by omega⟩
      · have e4 : L = 4 := by omega
        subst e4
        simp only [oneW_next, s_0, s_1, s_2, s_3, s_4, Hands, handsV, resultsV, oneOrTuple, argsT, ev, evs, evPairs, evOpt, closed, flat, nth, aCall, aEnter, notYield, aNilCheck, aLoad, partV, isAggD, aFieldAddr, aField, aExtract, Option.isNone, aBuiltin, cond_true, cond_false, cond_dec, if_true, if_false, List.length_cons, List.length_nil, forall_const, implies_true, List.append_nil, List.cons_append, List.nil_append, eq_self, Nat.reduceEqDiff, Nat.reduceAdd, Nat.reduceMul, Nat.reduceSub, Nat.reduceLT, Nat.reduceLeDiff, Nat.reduceBEq, reduceIte, reduceCtorEq, ti63, t63_desc, t63_size, ti25, t25_desc, ti22, t22_desc, t22_size, ti59, t59_desc, t59_size, ti60, t60_desc, t60_size, ti61, t61_desc, t61_size, ti3, t3_desc, t3_size, ti40, t40_desc, t40_size, ti33, t33_desc, t33_size, ti9, t9_desc, t9_size, wrow_now, wrow_all, eqnil25, fn17, fn26, fn27, fn28, fn29, fn38, fn39, fn12, fn14, fn15]
        refine ⟨_, _, l, rfl, ?_, hm, hl⟩
        simp only [tget_put, Nat.reduceEqDiff, if_false, if_true, reduceIte]; exact t3
    · simp only [tget_put, Nat.reduceEqDiff, if_false, if_true, reduceIte]; rfl
    · simp only [tget_put, Nat.reduceEqDiff, if_false, if_true, reduceIte]
  · rintro o ⟨T', A', l, rfl, u3, hm, hl⟩
    simp only [oneW_next, s_0, s_1, s_2, s_3, s_4, Hands, handsV, resultsV, oneOrTuple, argsT, ev, evs, evPairs, evOpt, closed, flat, nth, aCall, aEnter, notYield, aNilCheck, aLoad, partV, isAggD, aFieldAddr, aField, aExtract, Option.isNone, aBuiltin, cond_true, cond_false, cond_dec, if_true, if_false, List.length_cons, List.length_nil, forall_const, implies_true, List.append_nil, List.cons_append, List.nil_append, eq_self, Nat.reduceEqDiff, Nat.reduceAdd, Nat.reduceMul, Nat.reduceSub, Nat.reduceLT, Nat.reduceLeDiff, Nat.reduceBEq, reduceIte, reduceCtorEq, ti63, t63_desc, t63_size, ti25, t25_desc, ti22, t22_desc, t22_size, ti59, t59_desc, t59_size, ti60, t60_desc, t60_size, ti61, t61_desc, t61_size, ti3, t3_desc, t3_size, ti40, t40_desc, t40_size, ti33, t33_desc, t33_size, ti9, t9_desc, t9_size, wrow_now, wrow_all, eqnil25, fn17, fn26, fn27, fn28, fn29, fn38, fn39, fn12, fn14, fn15, u3]
    have hnr : nrow now all far l = wrow now all (l ++ [far]) := by
      unfold nrow wrow
      rw [hl]
      simp
    have hnd := hm.nodup
    refine ⟨W, all, l ++ [far], rfl, ⟨by rw [← hnr]; exact hm.row, by simp [hl], hnow, ?_, fun b hb => hm.below b ?_, ⟨[], 0, hm.maps all (by simp), ⟨.nil, .nil, by simp⟩, fun _ => rfl⟩, fun i m hi => ⟨[], 0, hm.maps m ?_, ⟨.nil, .nil, by simp⟩, fun _ => rfl⟩, by simp, by simp⟩, hm.fr, ?_⟩
    · have hp : (W :: all :: (l ++ [far])).Perm (W :: all :: far :: l) := ((List.perm_append_comm (l₁ := l) (l₂ := [far])).cons all).cons W
      exact hp.nodup_iff.2 hnd
    · simp only [List.mem_cons, List.mem_append, List.not_mem_nil, or_false] at hb ⊢
      rcases hb with h | h | h | h <;> simp [h]
    · have hmem := List.mem_of_getElem? hi
      simp only [List.mem_cons, List.mem_append, List.not_mem_nil, or_false] at hmem ⊢
      rcases hmem with h | h <;> simp [h]
    · intro b hb
      rw [← hall]
      refine hm.new b ?_
      simp only [List.mem_cons, List.mem_append, List.not_mem_nil, or_false] at hb ⊢
      rcases hb with h | h | h | h <;> simp [h]
theorem new_walk {A : ASt} {now : Nat} (hnow : now < 18446744073709551616) : CallW Z Try.prog 10 [.int .u64 (now : Int)] A (fun v A' => ∃ W all ms, v = .pointer (some ⟨W, 0, none⟩) ∧ WheelAt A' W all ms now (fun _ => none) ∧ Fr [] A A' ∧ A.next ≤ W) :=
  CallW.mono (new_walk2 hnow) fun v A' ⟨W, all, ms, h1, h2, h3, h4⟩ => ⟨W, all, ms, h1, h2, h3, h4 W (by simp)⟩

/-- So many ticks behind one, as far as there are ticks. -/
def lat (now b : Nat) : Nat := if 18446744073709551615 - now < b then 18446744073709551615 else now + b
theorem later_spec {A : ASt} {now b : Nat} (hn : now < 18446744073709551616) (hb : b < 18446744073709551616) : CallW Z Try.prog 11 [.int .u64 (now : Int), .int .u64 (b : Int)] A (fun v A' => v = .int .u64 ((lat now b : Nat) : Int) ∧ A' = A) := by
  refine CallW.of_code E0_ok E0_ro fn11 rfl (n := 12) rfl (rs := [.tmp 4]) rfl (by simp) (codeW_ok E0_ok E0_ro ?_)
  have e1 : IntKind.u64.wrap (18446744073709551615 - (now : Int)) = ((18446744073709551615 - now : Nat) : Int) := by rw [IntKind.wrap_u64]; omega
  simp only [oneW_next, s_0, s_1, s_2, s_3, s_4, Hands, handsV, resultsV, oneOrTuple, argsT, ev, evs, evPairs, evOpt, closed, flat, nth, aCall, aEnter, notYield, aNilCheck, aLoad, partV, isAggD, aFieldAddr, aField, aExtract, Option.isNone, aBuiltin, cond_true, cond_false, cond_dec, if_true, if_false, List.length_cons, List.length_nil, forall_const, implies_true, List.append_nil, List.cons_append, List.nil_append, eq_self, Nat.reduceEqDiff, Nat.reduceAdd, Nat.reduceMul, Nat.reduceSub, Nat.reduceLT, Nat.reduceLeDiff, Nat.reduceBEq, reduceIte, reduceCtorEq, ti63, t63_desc, t63_size, ti25, t25_desc, ti22, t22_desc, t22_size, ti59, t59_desc, t59_size, ti60, t60_desc, t60_size, ti61, t61_desc, t61_size, ti3, t3_desc, t3_size, ti40, t40_desc, t40_size, ti33, t33_desc, t33_size, ti9, t9_desc, t9_size, wrow_now, wrow_all, eqnil25, fn17, fn26, fn27, fn28, fn29, fn38, fn39, fn12, fn14, fn15, e1]
  refine brW_dec (fun h => ?_) (fun h => ?_)
  · have h' : 18446744073709551615 - now < b := by omega
    simp only [oneW_next, s_0, s_1, s_2, s_3, s_4, Hands, handsV, resultsV, oneOrTuple, argsT, ev, evs, evPairs, evOpt, closed, flat, nth, aCall, aEnter, notYield, aNilCheck, aLoad, partV, isAggD, aFieldAddr, aField, aExtract, Option.isNone, aBuiltin, cond_true, cond_false, cond_dec, if_true, if_false, List.length_cons, List.length_nil, forall_const, implies_true, List.append_nil, List.cons_append, List.nil_append, eq_self, Nat.reduceEqDiff, Nat.reduceAdd, Nat.reduceMul, Nat.reduceSub, Nat.reduceLT, Nat.reduceLeDiff, Nat.reduceBEq, reduceIte, reduceCtorEq, ti63, t63_desc, t63_size, ti25, t25_desc, ti22, t22_desc, t22_size, ti59, t59_desc, t59_size, ti60, t60_desc, t60_size, ti61, t61_desc, t61_size, ti3, t3_desc, t3_size, ti40, t40_desc, t40_size, ti33, t33_desc, t33_size, ti9, t9_desc, t9_size, wrow_now, wrow_all, eqnil25, fn17, fn26, fn27, fn28, fn29, fn38, fn39, fn12, fn14, fn15]
    unfold lat
    rw [if_pos h']
    rfl
  · have h' : ¬ 18446744073709551615 - now < b := by omega
    have e2 : IntKind.u64.wrap ((now : Int) + (b : Int)) = ((now + b : Nat) : Int) := by rw [IntKind.wrap_u64]; omega
    simp only [oneW_next, s_0, s_1, s_2, s_3, s_4, Hands, handsV, resultsV, oneOrTuple, argsT, ev, evs, evPairs, evOpt, closed, flat, nth, aCall, aEnter, notYield, aNilCheck, aLoad, partV, isAggD, aFieldAddr, aField, aExtract, Option.isNone, aBuiltin, cond_true, cond_false, cond_dec, if_true, if_false, List.length_cons, List.length_nil, forall_const, implies_true, List.append_nil, List.cons_append, List.nil_append, eq_self, Nat.reduceEqDiff, Nat.reduceAdd, Nat.reduceMul, Nat.reduceSub, Nat.reduceLT, Nat.reduceLeDiff, Nat.reduceBEq, reduceIte, reduceCtorEq, ti63, t63_desc, t63_size, ti25, t25_desc, ti22, t22_desc, t22_size, ti59, t59_desc, t59_size, ti60, t60_desc, t60_size, ti61, t61_desc, t61_size, ti3, t3_desc, t3_size, ti40, t40_desc, t40_size, ti33, t33_desc, t33_size, ti9, t9_desc, t9_size, wrow_now, wrow_all, eqnil25, fn17, fn26, fn27, fn28, fn29, fn38, fn39, fn12, fn14, fn15, e2]
    unfold lat
    rw [if_neg h']
end Go.Proofs.Ytpmpclieclcbdaa

/- The order of timers. -/
namespace Go.Proofs.Ytpmpclieclcbdaa
open Go Go.AE

variable {Z : Go.AE.Road}
set_option maxRecDepth 10000

theorem fn59 : E0.fn 59 = some Try.f59 := by kernel_rfl
theorem fn60 : E0.fn 60 = some Try.f60 := by kernel_rfl

theorem s_lss {t : TypeId} {xo yo : Operand} {a b : ByteArray} : aBin2 E0 .lss t xo yo (.string a) (.string b) = some (.bool (blt a b)) := rfl
theorem s_gtr {t : TypeId} {xo yo : Operand} {a b : ByteArray} : aBin2 E0 .gtr t xo yo (.string a) (.string b) = some (.bool (blt b a)) := rfl
theorem s_neq {t : TypeId} {xo yo : Operand} {a b : ByteArray} : aBin2 E0 .neq t xo yo (.string a) (.string b) = some (.bool (!decide (a = b))) := by
  show some (Value.bool (!bytesEq a.data.toList b.data.toList)) = _
  rw [bytesEq_iff]
theorem s_eql {t : TypeId} {xo yo : Operand} {a b : ByteArray} : aBin2 E0 .eql t xo yo (.string a) (.string b) = some (.bool (decide (a = b))) := by
  show some (Value.bool (bytesEq a.data.toList b.data.toList)) = _
  rw [bytesEq_iff]
theorem s_leq {t : TypeId} {xo yo : Operand} {a b : ByteArray} : aBin2 E0 .leq t xo yo (.string a) (.string b) = some (.bool (!blt b a)) := rfl

def cmpU (x y : Nat) : Int := if x < y then -1 else if y < x then 1 else 0
noncomputable def cmpS (a b : ByteArray) : Int := if blt a b = true then -1 else if blt b a = true then 1 else 0
noncomputable def cmpT (x y : ByteArray × Nat) : Int := if cmpU x.2 y.2 ≠ 0 then cmpU x.2 y.2 else cmpS x.1 y.1

theorem nan_u {A : ASt} {x : Int} : CallW Z Try.prog 59 [.int .u64 x] A (fun v A' => v = .bool false ∧ A' = A) := by
  refine CallW.of_code E0_ok E0_ro fn59 rfl (n := 6) rfl (rs := [.tmp 2]) rfl (by simp) (codeW_ok E0_ok E0_ro ?_)
  simp only [oneW_next, s_0, s_1, s_2, s_3, s_4, Hands, handsV, resultsV, oneOrTuple, argsT, ev, evs, evPairs, evOpt, closed, flat, nth, aCall, aEnter, notYield, aNilCheck, aLoad, partV, isAggD, aFieldAddr, aField, aExtract, Option.isNone, aBuiltin, cond_true, cond_false, cond_dec, if_true, if_false, List.length_cons, List.length_nil, forall_const, implies_true, List.append_nil, List.cons_append, List.nil_append, eq_self, Nat.reduceEqDiff, Nat.reduceAdd, Nat.reduceMul, Nat.reduceSub, Nat.reduceLT, Nat.reduceLeDiff, Nat.reduceBEq, reduceIte, reduceCtorEq, ti63, t63_desc, t63_size, ti25, t25_desc, ti22, t22_desc, t22_size, ti59, t59_desc, t59_size, ti60, t60_desc, t60_size, ti61, t61_desc, t61_size, ti3, t3_desc, t3_size, ti40, t40_desc, t40_size, ti33, t33_desc, t33_size, ti9, t9_desc, t9_size, wrow_now, wrow_all, eqnil25, fn17, fn26, fn27, fn28, fn29, fn38, fn39, fn12, fn14, fn15, fn59, ne_eq, not_true_eq_false]
theorem nan_s {A : ASt} {x : ByteArray} : CallW Z Try.prog 60 [.string x] A (fun v A' => v = .bool false ∧ A' = A) := by
  refine CallW.of_code E0_ok E0_ro fn60 rfl (n := 6) rfl (rs := [.tmp 2]) rfl (by simp) (codeW_ok E0_ok E0_ro ?_)
  simp only [oneW_next, s_0, s_1, s_2, s_3, s_4, Hands, handsV, resultsV, oneOrTuple, argsT, ev, evs, evPairs, evOpt, closed, flat, nth, aCall, aEnter, notYield, aNilCheck, aLoad, partV, isAggD, aFieldAddr, aField, aExtract, Option.isNone, aBuiltin, cond_true, cond_false, cond_dec, if_true, if_false, List.length_cons, List.length_nil, forall_const, implies_true, List.append_nil, List.cons_append, List.nil_append, eq_self, Nat.reduceEqDiff, Nat.reduceAdd, Nat.reduceMul, Nat.reduceSub, Nat.reduceLT, Nat.reduceLeDiff, Nat.reduceBEq, reduceIte, reduceCtorEq, ti63, t63_desc, t63_size, ti25, t25_desc, ti22, t22_desc, t22_size, ti59, t59_desc, t59_size, ti60, t60_desc, t60_size, ti61, t61_desc, t61_size, ti3, t3_desc, t3_size, ti40, t40_desc, t40_size, ti33, t33_desc, t33_size, ti9, t9_desc, t9_size, wrow_now, wrow_all, eqnil25, fn17, fn26, fn27, fn28, fn29, fn38, fn39, fn12, fn14, fn15, fn60, s_neq]

theorem cmp_u {A : ASt} {x y : Nat} : CallW Z Try.prog 48 [.int .u64 (x : Int), .int .u64 (y : Int)] A (fun v A' => v = .int .i64 (cmpU x y) ∧ A' = A) := by
  refine CallW.of_code E0_ok E0_ro fn48 rfl (n := 20) rfl (rs := [.tmp 4]) rfl (by simp) (codeW_ok E0_ok E0_ro ?_)
  simp only [oneW_next, s_0, s_1, s_2, s_3, s_4, Hands, handsV, resultsV, oneOrTuple, argsT, ev, evs, evPairs, evOpt, closed, flat, nth, aCall, aEnter, notYield, aNilCheck, aLoad, partV, isAggD, aFieldAddr, aField, aExtract, Option.isNone, aBuiltin, cond_true, cond_false, cond_dec, if_true, if_false, List.length_cons, List.length_nil, forall_const, implies_true, List.append_nil, List.cons_append, List.nil_append, eq_self, Nat.reduceEqDiff, Nat.reduceAdd, Nat.reduceMul, Nat.reduceSub, Nat.reduceLT, Nat.reduceLeDiff, Nat.reduceBEq, reduceIte, reduceCtorEq, ti63, t63_desc, t63_size, ti25, t25_desc, ti22, t22_desc, t22_size, ti59, t59_desc, t59_size, ti60, t60_desc, t60_size, ti61, t61_desc, t61_size, ti3, t3_desc, t3_size, ti40, t40_desc, t40_size, ti33, t33_desc, t33_size, ti9, t9_desc, t9_size, wrow_now, wrow_all, eqnil25, fn17, fn26, fn27, fn28, fn29, fn38, fn39, fn12, fn14, fn15, fn59]
  refine CallT.mono nan_u ?_
  rintro _ _ ⟨rfl, rfl⟩
  simp only [oneW_next, s_0, s_1, s_2, s_3, s_4, Hands, handsV, resultsV, oneOrTuple, argsT, ev, evs, evPairs, evOpt, closed, flat, nth, aCall, aEnter, notYield, aNilCheck, aLoad, partV, isAggD, aFieldAddr, aField, aExtract, Option.isNone, aBuiltin, cond_true, cond_false, cond_dec, if_true, if_false, List.length_cons, List.length_nil, forall_const, implies_true, List.append_nil, List.cons_append, List.nil_append, eq_self, Nat.reduceEqDiff, Nat.reduceAdd, Nat.reduceMul, Nat.reduceSub, Nat.reduceLT, Nat.reduceLeDiff, Nat.reduceBEq, reduceIte, reduceCtorEq, ti63, t63_desc, t63_size, ti25, t25_desc, ti22, t22_desc, t22_size, ti59, t59_desc, t59_size, ti60, t60_desc, t60_size, ti61, t61_desc, t61_size, ti3, t3_desc, t3_size, ti40, t40_desc, t40_size, ti33, t33_desc, t33_size, ti9, t9_desc, t9_size, wrow_now, wrow_all, eqnil25, fn17, fn26, fn27, fn28, fn29, fn38, fn39, fn12, fn14, fn15, fn59]
  refine CallT.mono nan_u ?_
  rintro _ _ ⟨rfl, rfl⟩
  simp only [oneW_next, s_0, s_1, s_2, s_3, s_4, Hands, handsV, resultsV, oneOrTuple, argsT, ev, evs, evPairs, evOpt, closed, flat, nth, aCall, aEnter, notYield, aNilCheck, aLoad, partV, isAggD, aFieldAddr, aField, aExtract, Option.isNone, aBuiltin, cond_true, cond_false, cond_dec, if_true, if_false, List.length_cons, List.length_nil, forall_const, implies_true, List.append_nil, List.cons_append, List.nil_append, eq_self, Nat.reduceEqDiff, Nat.reduceAdd, Nat.reduceMul, Nat.reduceSub, Nat.reduceLT, Nat.reduceLeDiff, Nat.reduceBEq, reduceIte, reduceCtorEq, ti63, t63_desc, t63_size, ti25, t25_desc, ti22, t22_desc, t22_size, ti59, t59_desc, t59_size, ti60, t60_desc, t60_size, ti61, t61_desc, t61_size, ti3, t3_desc, t3_size, ti40, t40_desc, t40_size, ti33, t33_desc, t33_size, ti9, t9_desc, t9_size, wrow_now, wrow_all, eqnil25, fn17, fn26, fn27, fn28, fn29, fn38, fn39, fn12, fn14, fn15]
  unfold cmpU
  refine brW_dec (fun h => ?_) (fun h => ?_)
  · have h' : x < y := by omega
    simp only [oneW_next, s_0, s_1, s_2, s_3, s_4, Hands, handsV, resultsV, oneOrTuple, argsT, ev, evs, evPairs, evOpt, closed, flat, nth, aCall, aEnter, notYield, aNilCheck, aLoad, partV, isAggD, aFieldAddr, aField, aExtract, Option.isNone, aBuiltin, cond_true, cond_false, cond_dec, if_true, if_false, List.length_cons, List.length_nil, forall_const, implies_true, List.append_nil, List.cons_append, List.nil_append, eq_self, Nat.reduceEqDiff, Nat.reduceAdd, Nat.reduceMul, Nat.reduceSub, Nat.reduceLT, Nat.reduceLeDiff, Nat.reduceBEq, reduceIte, reduceCtorEq, ti63, t63_desc, t63_size, ti25, t25_desc, ti22, t22_desc, t22_size, ti59, t59_desc, t59_size, ti60, t60_desc, t60_size, ti61, t61_desc, t61_size, ti3, t3_desc, t3_size, ti40, t40_desc, t40_size, ti33, t33_desc, t33_size, ti9, t9_desc, t9_size, wrow_now, wrow_all, eqnil25, fn17, fn26, fn27, fn28, fn29, fn38, fn39, fn12, fn14, fn15, h']
  · have h' : ¬ x < y := by omega
    rw [if_neg h']
    simp only [oneW_next, s_0, s_1, s_2, s_3, s_4, Hands, handsV, resultsV, oneOrTuple, argsT, ev, evs, evPairs, evOpt, closed, flat, nth, aCall, aEnter, notYield, aNilCheck, aLoad, partV, isAggD, aFieldAddr, aField, aExtract, Option.isNone, aBuiltin, cond_true, cond_false, cond_dec, if_true, if_false, List.length_cons, List.length_nil, forall_const, implies_true, List.append_nil, List.cons_append, List.nil_append, eq_self, Nat.reduceEqDiff, Nat.reduceAdd, Nat.reduceMul, Nat.reduceSub, Nat.reduceLT, Nat.reduceLeDiff, Nat.reduceBEq, reduceIte, reduceCtorEq, ti63, t63_desc, t63_size, ti25, t25_desc, ti22, t22_desc, t22_size, ti59, t59_desc, t59_size, ti60, t60_desc, t60_size, ti61, t61_desc, t61_size, ti3, t3_desc, t3_size, ti40, t40_desc, t40_size, ti33, t33_desc, t33_size, ti9, t9_desc, t9_size, wrow_now, wrow_all, eqnil25, fn17, fn26, fn27, fn28, fn29, fn38, fn39, fn12, fn14, fn15]
    refine brW_dec (fun h2 => ?_) (fun h2 => ?_)
    · have h2' : y < x := by omega
      simp only [oneW_next, s_0, s_1, s_2, s_3, s_4, Hands, handsV, resultsV, oneOrTuple, argsT, ev, evs, evPairs, evOpt, closed, flat, nth, aCall, aEnter, notYield, aNilCheck, aLoad, partV, isAggD, aFieldAddr, aField, aExtract, Option.isNone, aBuiltin, cond_true, cond_false, cond_dec, if_true, if_false, List.length_cons, List.length_nil, forall_const, implies_true, List.append_nil, List.cons_append, List.nil_append, eq_self, Nat.reduceEqDiff, Nat.reduceAdd, Nat.reduceMul, Nat.reduceSub, Nat.reduceLT, Nat.reduceLeDiff, Nat.reduceBEq, reduceIte, reduceCtorEq, ti63, t63_desc, t63_size, ti25, t25_desc, ti22, t22_desc, t22_size, ti59, t59_desc, t59_size, ti60, t60_desc, t60_size, ti61, t61_desc, t61_size, ti3, t3_desc, t3_size, ti40, t40_desc, t40_size, ti33, t33_desc, t33_size, ti9, t9_desc, t9_size, wrow_now, wrow_all, eqnil25, fn17, fn26, fn27, fn28, fn29, fn38, fn39, fn12, fn14, fn15, h2']
    · have h2' : ¬ y < x := by omega
      simp only [oneW_next, s_0, s_1, s_2, s_3, s_4, Hands, handsV, resultsV, oneOrTuple, argsT, ev, evs, evPairs, evOpt, closed, flat, nth, aCall, aEnter, notYield, aNilCheck, aLoad, partV, isAggD, aFieldAddr, aField, aExtract, Option.isNone, aBuiltin, cond_true, cond_false, cond_dec, if_true, if_false, List.length_cons, List.length_nil, forall_const, implies_true, List.append_nil, List.cons_append, List.nil_append, eq_self, Nat.reduceEqDiff, Nat.reduceAdd, Nat.reduceMul, Nat.reduceSub, Nat.reduceLT, Nat.reduceLeDiff, Nat.reduceBEq, reduceIte, reduceCtorEq, ti63, t63_desc, t63_size, ti25, t25_desc, ti22, t22_desc, t22_size, ti59, t59_desc, t59_size, ti60, t60_desc, t60_size, ti61, t61_desc, t61_size, ti3, t3_desc, t3_size, ti40, t40_desc, t40_size, ti33, t33_desc, t33_size, ti9, t9_desc, t9_size, wrow_now, wrow_all, eqnil25, fn17, fn26, fn27, fn28, fn29, fn38, fn39, fn12, fn14, fn15, h2']

theorem cmp_s {A : ASt} {x y : ByteArray} : CallW Z Try.prog 49 [.string x, .string y] A (fun v A' => v = .int .i64 (cmpS x y) ∧ A' = A) := by
  refine CallW.of_code E0_ok E0_ro fn49 rfl (n := 20) rfl (rs := [.tmp 4]) rfl (by simp) (codeW_ok E0_ok E0_ro ?_)
  simp only [oneW_next, s_0, s_1, s_2, s_3, s_4, Hands, handsV, resultsV, oneOrTuple, argsT, ev, evs, evPairs, evOpt, closed, flat, nth, aCall, aEnter, notYield, aNilCheck, aLoad, partV, isAggD, aFieldAddr, aField, aExtract, Option.isNone, aBuiltin, cond_true, cond_false, cond_dec, if_true, if_false, List.length_cons, List.length_nil, forall_const, implies_true, List.append_nil, List.cons_append, List.nil_append, eq_self, Nat.reduceEqDiff, Nat.reduceAdd, Nat.reduceMul, Nat.reduceSub, Nat.reduceLT, Nat.reduceLeDiff, Nat.reduceBEq, reduceIte, reduceCtorEq, ti63, t63_desc, t63_size, ti25, t25_desc, ti22, t22_desc, t22_size, ti59, t59_desc, t59_size, ti60, t60_desc, t60_size, ti61, t61_desc, t61_size, ti3, t3_desc, t3_size, ti40, t40_desc, t40_size, ti33, t33_desc, t33_size, ti9, t9_desc, t9_size, wrow_now, wrow_all, eqnil25, fn17, fn26, fn27, fn28, fn29, fn38, fn39, fn12, fn14, fn15, fn60]
  refine CallT.mono nan_s ?_
  rintro _ _ ⟨rfl, rfl⟩
  simp only [oneW_next, s_0, s_1, s_2, s_3, s_4, Hands, handsV, resultsV, oneOrTuple, argsT, ev, evs, evPairs, evOpt, closed, flat, nth, aCall, aEnter, notYield, aNilCheck, aLoad, partV, isAggD, aFieldAddr, aField, aExtract, Option.isNone, aBuiltin, cond_true, cond_false, cond_dec, if_true, if_false, List.length_cons, List.length_nil, forall_const, implies_true, List.append_nil, List.cons_append, List.nil_append, eq_self, Nat.reduceEqDiff, Nat.reduceAdd, Nat.reduceMul, Nat.reduceSub, Nat.reduceLT, Nat.reduceLeDiff, Nat.reduceBEq, reduceIte, reduceCtorEq, ti63, t63_desc, t63_size, ti25, t25_desc, ti22, t22_desc, t22_size, ti59, t59_desc, t59_size, ti60, t60_desc, t60_size, ti61, t61_desc, t61_size, ti3, t3_desc, t3_size, ti40, t40_desc, t40_size, ti33, t33_desc, t33_size, ti9, t9_desc, t9_size, wrow_now, wrow_all, eqnil25, fn17, fn26, fn27, fn28, fn29, fn38, fn39, fn12, fn14, fn15, fn60]
  refine CallT.mono nan_s ?_
  rintro _ _ ⟨rfl, rfl⟩
  simp only [oneW_next, s_0, s_1, s_2, s_3, s_4, Hands, handsV, resultsV, oneOrTuple, argsT, ev, evs, evPairs, evOpt, closed, flat, nth, aCall, aEnter, notYield, aNilCheck, aLoad, partV, isAggD, aFieldAddr, aField, aExtract, Option.isNone, aBuiltin, cond_true, cond_false, cond_dec, if_true, if_false, List.length_cons, List.length_nil, forall_const, implies_true, List.append_nil, List.cons_append, List.nil_append, eq_self, Nat.reduceEqDiff, Nat.reduceAdd, Nat.reduceMul, Nat.reduceSub, Nat.reduceLT, Nat.reduceLeDiff, Nat.reduceBEq, reduceIte, reduceCtorEq, ti63, t63_desc, t63_size, ti25, t25_desc, ti22, t22_desc, t22_size, ti59, t59_desc, t59_size, ti60, t60_desc, t60_size, ti61, t61_desc, t61_size, ti3, t3_desc, t3_size, ti40, t40_desc, t40_size, ti33, t33_desc, t33_size, ti9, t9_desc, t9_size, wrow_now, wrow_all, eqnil25, fn17, fn26, fn27, fn28, fn29, fn38, fn39, fn12, fn14, fn15, s_lss]
  unfold cmpS
  cases h : blt x y with
  | true => simp only [oneW_next, s_0, s_1, s_2, s_3, s_4, Hands, handsV, resultsV, oneOrTuple, argsT, ev, evs, evPairs, evOpt, closed, flat, nth, aCall, aEnter, notYield, aNilCheck, aLoad, partV, isAggD, aFieldAddr, aField, aExtract, Option.isNone, aBuiltin, cond_true, cond_false, cond_dec, if_true, if_false, List.length_cons, List.length_nil, forall_const, implies_true, List.append_nil, List.cons_append, List.nil_append, eq_self, Nat.reduceEqDiff, Nat.reduceAdd, Nat.reduceMul, Nat.reduceSub, Nat.reduceLT, Nat.reduceLeDiff, Nat.reduceBEq, reduceIte, reduceCtorEq, ti63, t63_desc, t63_size, ti25, t25_desc, ti22, t22_desc, t22_size, ti59, t59_desc, t59_size, ti60, t60_desc, t60_size, ti61, t61_desc, t61_size, ti3, t3_desc, t3_size, ti40, t40_desc, t40_size, ti33, t33_desc, t33_size, ti9, t9_desc, t9_size, wrow_now, wrow_all, eqnil25, fn17, fn26, fn27, fn28, fn29, fn38, fn39, fn12, fn14, fn15, h]
  | false =>
    simp only [oneW_next, s_0, s_1, s_2, s_3, s_4, Hands, handsV, resultsV, oneOrTuple, argsT, ev, evs, evPairs, evOpt, closed, flat, nth, aCall, aEnter, notYield, aNilCheck, aLoad, partV, isAggD, aFieldAddr, aField, aExtract, Option.isNone, aBuiltin, cond_true, cond_false, cond_dec, if_true, if_false, List.length_cons, List.length_nil, forall_const, implies_true, List.append_nil, List.cons_append, List.nil_append, eq_self, Nat.reduceEqDiff, Nat.reduceAdd, Nat.reduceMul, Nat.reduceSub, Nat.reduceLT, Nat.reduceLeDiff, Nat.reduceBEq, reduceIte, reduceCtorEq, ti63, t63_desc, t63_size, ti25, t25_desc, ti22, t22_desc, t22_size, ti59, t59_desc, t59_size, ti60, t60_desc, t60_size, ti61, t61_desc, t61_size, ti3, t3_desc, t3_size, ti40, t40_desc, t40_size, ti33, t33_desc, t33_size, ti9, t9_desc, t9_size, wrow_now, wrow_all, eqnil25, fn17, fn26, fn27, fn28, fn29, fn38, fn39, fn12, fn14, fn15, h, s_gtr]
    cases h2 : blt y x with
    | true => simp only [oneW_next, s_0, s_1, s_2, s_3, s_4, Hands, handsV, resultsV, oneOrTuple, argsT, ev, evs, evPairs, evOpt, closed, flat, nth, aCall, aEnter, notYield, aNilCheck, aLoad, partV, isAggD, aFieldAddr, aField, aExtract, Option.isNone, aBuiltin, cond_true, cond_false, cond_dec, if_true, if_false, List.length_cons, List.length_nil, forall_const, implies_true, List.append_nil, List.cons_append, List.nil_append, eq_self, Nat.reduceEqDiff, Nat.reduceAdd, Nat.reduceMul, Nat.reduceSub, Nat.reduceLT, Nat.reduceLeDiff, Nat.reduceBEq, reduceIte, reduceCtorEq, ti63, t63_desc, t63_size, ti25, t25_desc, ti22, t22_desc, t22_size, ti59, t59_desc, t59_size, ti60, t60_desc, t60_size, ti61, t61_desc, t61_size, ti3, t3_desc, t3_size, ti40, t40_desc, t40_size, ti33, t33_desc, t33_size, ti9, t9_desc, t9_size, wrow_now, wrow_all, eqnil25, fn17, fn26, fn27, fn28, fn29, fn38, fn39, fn12, fn14, fn15, h2]
    | false => simp only [oneW_next, s_0, s_1, s_2, s_3, s_4, Hands, handsV, resultsV, oneOrTuple, argsT, ev, evs, evPairs, evOpt, closed, flat, nth, aCall, aEnter, notYield, aNilCheck, aLoad, partV, isAggD, aFieldAddr, aField, aExtract, Option.isNone, aBuiltin, cond_true, cond_false, cond_dec, if_true, if_false, List.length_cons, List.length_nil, forall_const, implies_true, List.append_nil, List.cons_append, List.nil_append, eq_self, Nat.reduceEqDiff, Nat.reduceAdd, Nat.reduceMul, Nat.reduceSub, Nat.reduceLT, Nat.reduceLeDiff, Nat.reduceBEq, reduceIte, reduceCtorEq, ti63, t63_desc, t63_size, ti25, t25_desc, ti22, t22_desc, t22_size, ti59, t59_desc, t59_size, ti60, t60_desc, t60_size, ti61, t61_desc, t61_size, ti3, t3_desc, t3_size, ti40, t40_desc, t40_size, ti33, t33_desc, t33_size, ti9, t9_desc, t9_size, wrow_now, wrow_all, eqnil25, fn17, fn26, fn27, fn28, fn29, fn38, fn39, fn12, fn14, fn15, h2]

noncomputable def t100 : TIn := match tiOf Try.prog 100 with
  | some i => i
  | none => ⟨.bool, 0, 0, none, #[], none⟩
theorem ti100 : E0.ti 100 = some t100 := by kernel_rfl
theorem t100_desc : t100.desc = TypeDesc.slice 3 := by kernel_rfl

theorem len_sl {A : ASt} {t e : TypeId} {i : TIn} (h : E0.ti t = some i) (hd : i.desc = .slice e) {b : Option Addr} {n c : Nat} : aLen E0 t (.slice b n c) A = some (.int .i64 (n : Int)) := by
  simp only [aLen, h, hd]; rfl
theorem len100 {A : ASt} {b : Option Addr} {n c : Nat} : aLen E0 100 (.slice b n c) A = some (.int .i64 (n : Int)) := len_sl ti100 t100_desc
theorem ix100 {b len cap k off : Nat} (hk : k < len) : aIndexAddr E0 100 (.slice (some ⟨b, off, none⟩) len cap) (.int .i64 (k : Int)) = some (.pointer (some ⟨b, off + k, none⟩)) := by
  have := indexAddr_sl (A := { heap := .e, next := 0 }) ti100 t100_desc ti3 (kd := .i64) (k := k) (b := b) (off := off) (len := len) (cap := cap) hk
  rwa [t3_size, Nat.mul_one] at this

theorem or_spec {A : ASt} {B : Nat} {x y : Int} {sz : Nat} {tl : Bool} (hB : A.get B = some (.row [.int .i64 x, .int .i64 y] sz tl)) : CallW Z Try.prog 47 [.slice (some ⟨B, 0, none⟩) 2 2] A (fun v A' => v = .int .i64 (if x ≠ 0 then x else y) ∧ A' = A) := by
  refine CallW.of_code E0_ok E0_ro fn47 rfl (n := 18) rfl (rs := [.tmp 2]) rfl (by simp) (codeW_ok E0_ok E0_ro ?_)
  simp only [oneW_next, s_0, s_1, s_2, s_3, s_4, Hands, handsV, resultsV, oneOrTuple, argsT, ev, evs, evPairs, evOpt, closed, flat, nth, aCall, aEnter, notYield, aNilCheck, aLoad, partV, isAggD, aFieldAddr, aField, aExtract, Option.isNone, aBuiltin, cond_true, cond_false, cond_dec, if_true, if_false, List.length_cons, List.length_nil, forall_const, implies_true, List.append_nil, List.cons_append, List.nil_append, eq_self, Nat.reduceEqDiff, Nat.reduceAdd, Nat.reduceMul, Nat.reduceSub, Nat.reduceLT, Nat.reduceLeDiff, Nat.reduceBEq, reduceIte, reduceCtorEq, ti63, t63_desc, t63_size, ti25, t25_desc, ti22, t22_desc, t22_size, ti59, t59_desc, t59_size, ti60, t60_desc, t60_size, ti61, t61_desc, t61_size, ti3, t3_desc, t3_size, ti40, t40_desc, t40_size, ti33, t33_desc, t33_size, ti9, t9_desc, t9_size, wrow_now, wrow_all, eqnil25, fn17, fn26, fn27, fn28, fn29, fn38, fn39, fn12, fn14, fn15, len100]
  refine CodeW.mono (Q := fun o => (∃ T' A', o = .fr ⟨.exit 0, T', A'⟩ ∧ tget T' 3 = .int .i64 0 ∧ x = 0 ∧ y = 0 ∧ A' = A) ∨ (∃ T' A', o = .fr ⟨.ret, T', A'⟩ ∧ tget T' 2 = .int .i64 (if x ≠ 0 then x else y) ∧ A' = A)) ?_ ?_
  · refine CodeW.loopR (k := 2) (fun k T A' => ∃ j, k = 2 - j ∧ j ≤ 2 ∧ tget T 8 = .int .i64 (j : Int) ∧ tget T 7 = .int .i64 (2 : Nat) ∧ tget T 6 = .slice (some ⟨B, 0, none⟩) 2 2 ∧ tget T 3 = .int .i64 0 ∧ (0 < j → x = 0) ∧ (1 < j → y = 0) ∧ A' = A) ?_ ⟨0, rfl, by omega, ?_, ?_, ?_, ?_, by omega, by omega, rfl⟩
    · rintro k T A' ⟨j, rfl, hj, u8, u7, u6, u3, hx, hy, rfl⟩
      refine codeW_ok E0_ok E0_ro ?_
      simp only [oneW_next, s_0, s_1, s_2, s_3, s_4, Hands, handsV, resultsV, oneOrTuple, argsT, ev, evs, evPairs, evOpt, closed, flat, nth, aCall, aEnter, notYield, aNilCheck, aLoad, partV, isAggD, aFieldAddr, aField, aExtract, Option.isNone, aBuiltin, cond_true, cond_false, cond_dec, if_true, if_false, List.length_cons, List.length_nil, forall_const, implies_true, List.append_nil, List.cons_append, List.nil_append, eq_self, Nat.reduceEqDiff, Nat.reduceAdd, Nat.reduceMul, Nat.reduceSub, Nat.reduceLT, Nat.reduceLeDiff, Nat.reduceBEq, reduceIte, reduceCtorEq, ti63, t63_desc, t63_size, ti25, t25_desc, ti22, t22_desc, t22_size, ti59, t59_desc, t59_size, ti60, t60_desc, t60_size, ti61, t61_desc, t61_size, ti3, t3_desc, t3_size, ti40, t40_desc, t40_size, ti33, t33_desc, t33_size, ti9, t9_desc, t9_size, wrow_now, wrow_all, eqnil25, fn17, fn26, fn27, fn28, fn29, fn38, fn39, fn12, fn14, fn15, u8, u7]
      refine brW_dec (fun hlt => ?_) (fun hlt => ?_)
      · have hj2 : j < 2 := by omega
        have hn : ∃ z, nth [Value.int .i64 x, Value.int .i64 y] (0 + j) = some (.int .i64 z) ∧ z = if j = 0 then x else y := by
          rcases Nat.lt_or_ge j 1 with h | h
          · have : j = 0 := by omega
            subst this; exact ⟨x, rfl, rfl⟩
          · have : j = 1 := by omega
            subst this; exact ⟨y, rfl, rfl⟩
        obtain ⟨z, hz, hze⟩ := hn
        rw [Nat.zero_add] at hz
        simp only [oneW_next, s_0, s_1, s_2, s_3, s_4, Hands, handsV, resultsV, oneOrTuple, argsT, ev, evs, evPairs, evOpt, closed, flat, nth, aCall, aEnter, notYield, aNilCheck, aLoad, partV, isAggD, aFieldAddr, aField, aExtract, Option.isNone, aBuiltin, cond_true, cond_false, cond_dec, if_true, if_false, List.length_cons, List.length_nil, forall_const, implies_true, List.append_nil, List.cons_append, List.nil_append, eq_self, Nat.reduceEqDiff, Nat.reduceAdd, Nat.reduceMul, Nat.reduceSub, Nat.reduceLT, Nat.reduceLeDiff, Nat.reduceBEq, reduceIte, reduceCtorEq, ti63, t63_desc, t63_size, ti25, t25_desc, ti22, t22_desc, t22_size, ti59, t59_desc, t59_size, ti60, t60_desc, t60_size, ti61, t61_desc, t61_size, ti3, t3_desc, t3_size, ti40, t40_desc, t40_size, ti33, t33_desc, t33_size, ti9, t9_desc, t9_size, wrow_now, wrow_all, eqnil25, fn17, fn26, fn27, fn28, fn29, fn38, fn39, fn12, fn14, fn15, u8, u6, u3, ix100 hj2, hB, hz]
        refine brW_b (fun hne => ?_) (fun hne => ?_)
        · have hne : z ≠ 0 := by simpa using hne
          simp only [oneW_next, s_0, s_1, s_2, s_3, s_4, Hands, handsV, resultsV, oneOrTuple, argsT, ev, evs, evPairs, evOpt, closed, flat, nth, aCall, aEnter, notYield, aNilCheck, aLoad, partV, isAggD, aFieldAddr, aField, aExtract, Option.isNone, aBuiltin, cond_true, cond_false, cond_dec, if_true, if_false, List.length_cons, List.length_nil, forall_const, implies_true, List.append_nil, List.cons_append, List.nil_append, eq_self, Nat.reduceEqDiff, Nat.reduceAdd, Nat.reduceMul, Nat.reduceSub, Nat.reduceLT, Nat.reduceLeDiff, Nat.reduceBEq, reduceIte, reduceCtorEq, ti63, t63_desc, t63_size, ti25, t25_desc, ti22, t22_desc, t22_size, ti59, t59_desc, t59_size, ti60, t60_desc, t60_size, ti61, t61_desc, t61_size, ti3, t3_desc, t3_size, ti40, t40_desc, t40_size, ti33, t33_desc, t33_size, ti9, t9_desc, t9_size, wrow_now, wrow_all, eqnil25, fn17, fn26, fn27, fn28, fn29, fn38, fn39, fn12, fn14, fn15]
          refine .inr ⟨_, _, rfl, ?_, rfl⟩
          simp only [tget_put, Nat.reduceEqDiff, if_false, if_true, reduceIte]
          have key : z = if x ≠ 0 then x else y := by
            rcases Nat.lt_or_ge j 1 with h | h
            · have : j = 0 := by omega
              subst this
              simp only [if_true] at hze
              subst hze
              rw [if_pos hne]
            · have hx0 : x = 0 := hx (by omega)
              have hj0 : ¬ j = 0 := by omega
              rw [hze, if_neg hj0, hx0]
              rfl
          rw [key]
        · simp only [oneW_next, s_0, s_1, s_2, s_3, s_4, Hands, handsV, resultsV, oneOrTuple, argsT, ev, evs, evPairs, evOpt, closed, flat, nth, aCall, aEnter, notYield, aNilCheck, aLoad, partV, isAggD, aFieldAddr, aField, aExtract, Option.isNone, aBuiltin, cond_true, cond_false, cond_dec, if_true, if_false, List.length_cons, List.length_nil, forall_const, implies_true, List.append_nil, List.cons_append, List.nil_append, eq_self, Nat.reduceEqDiff, Nat.reduceAdd, Nat.reduceMul, Nat.reduceSub, Nat.reduceLT, Nat.reduceLeDiff, Nat.reduceBEq, reduceIte, reduceCtorEq, ti63, t63_desc, t63_size, ti25, t25_desc, ti22, t22_desc, t22_size, ti59, t59_desc, t59_size, ti60, t60_desc, t60_size, ti61, t61_desc, t61_size, ti3, t3_desc, t3_size, ti40, t40_desc, t40_size, ti33, t33_desc, t33_size, ti9, t9_desc, t9_size, wrow_now, wrow_all, eqnil25, fn17, fn26, fn27, fn28, fn29, fn38, fn39, fn12, fn14, fn15, u8, wrap_succ (show j < 1000000 by omega)]
          have hz0 : z = 0 := by simpa using hne
          refine ⟨2 - (j + 1), by omega, j + 1, rfl, by omega, rfl, u7, u6, u3, fun _ => ?_, fun h => ?_⟩
          · rcases Nat.lt_or_ge j 1 with h | h
            · have : j = 0 := by omega
              subst this
              simp only [if_true] at hze
              rw [← hze]; exact hz0
            · exact hx (by omega)
          · have : j = 1 := by omega
            subst this
            have hj : ¬ (1 : Nat) = 0 := by omega
            rw [if_neg hj] at hze
            rw [← hze, hz0]
      · have e2 : j = 2 := by omega
        subst e2
        simp only [oneW_next, s_0, s_1, s_2, s_3, s_4, Hands, handsV, resultsV, oneOrTuple, argsT, ev, evs, evPairs, evOpt, closed, flat, nth, aCall, aEnter, notYield, aNilCheck, aLoad, partV, isAggD, aFieldAddr, aField, aExtract, Option.isNone, aBuiltin, cond_true, cond_false, cond_dec, if_true, if_false, List.length_cons, List.length_nil, forall_const, implies_true, List.append_nil, List.cons_append, List.nil_append, eq_self, Nat.reduceEqDiff, Nat.reduceAdd, Nat.reduceMul, Nat.reduceSub, Nat.reduceLT, Nat.reduceLeDiff, Nat.reduceBEq, reduceIte, reduceCtorEq, ti63, t63_desc, t63_size, ti25, t25_desc, ti22, t22_desc, t22_size, ti59, t59_desc, t59_size, ti60, t60_desc, t60_size, ti61, t61_desc, t61_size, ti3, t3_desc, t3_size, ti40, t40_desc, t40_size, ti33, t33_desc, t33_size, ti9, t9_desc, t9_size, wrow_now, wrow_all, eqnil25, fn17, fn26, fn27, fn28, fn29, fn38, fn39, fn12, fn14, fn15]
        refine .inl ⟨_, _, rfl, ?_, hx (by omega), hy (by omega), rfl⟩
        simp only [tget_put, Nat.reduceEqDiff, if_false, if_true, reduceIte]; exact u3
    · simp only [tget_put, Nat.reduceEqDiff, if_false, if_true, reduceIte]; rfl
    · simp only [tget_put, Nat.reduceEqDiff, if_false, if_true, reduceIte]
    · simp only [tget_put, Nat.reduceEqDiff, if_false, if_true, reduceIte]
    · simp only [tget_put, Nat.reduceEqDiff, if_false, if_true, reduceIte]
  · rintro o (⟨T', A', rfl, u3, hx, hy, rfl⟩ | ⟨T', A', rfl, u2, rfl⟩)
    · simp only [oneW_next, s_0, s_1, s_2, s_3, s_4, Hands, handsV, resultsV, oneOrTuple, argsT, ev, evs, evPairs, evOpt, closed, flat, nth, aCall, aEnter, notYield, aNilCheck, aLoad, partV, isAggD, aFieldAddr, aField, aExtract, Option.isNone, aBuiltin, cond_true, cond_false, cond_dec, if_true, if_false, List.length_cons, List.length_nil, forall_const, implies_true, List.append_nil, List.cons_append, List.nil_append, eq_self, Nat.reduceEqDiff, Nat.reduceAdd, Nat.reduceMul, Nat.reduceSub, Nat.reduceLT, Nat.reduceLeDiff, Nat.reduceBEq, reduceIte, reduceCtorEq, ti63, t63_desc, t63_size, ti25, t25_desc, ti22, t22_desc, t22_size, ti59, t59_desc, t59_size, ti60, t60_desc, t60_size, ti61, t61_desc, t61_size, ti3, t3_desc, t3_size, ti40, t40_desc, t40_size, ti33, t33_desc, t33_size, ti9, t9_desc, t9_size, wrow_now, wrow_all, eqnil25, fn17, fn26, fn27, fn28, fn29, fn38, fn39, fn12, fn14, fn15, u3]
      rw [hx, hy]; rfl
    · simp only [oneW_next, s_0, s_1, s_2, s_3, s_4, Hands, handsV, resultsV, oneOrTuple, argsT, ev, evs, evPairs, evOpt, closed, flat, nth, aCall, aEnter, notYield, aNilCheck, aLoad, partV, isAggD, aFieldAddr, aField, aExtract, Option.isNone, aBuiltin, cond_true, cond_false, cond_dec, if_true, if_false, List.length_cons, List.length_nil, forall_const, implies_true, List.append_nil, List.cons_append, List.nil_append, eq_self, Nat.reduceEqDiff, Nat.reduceAdd, Nat.reduceMul, Nat.reduceSub, Nat.reduceLT, Nat.reduceLeDiff, Nat.reduceBEq, reduceIte, reduceCtorEq, ti63, t63_desc, t63_size, ti25, t25_desc, ti22, t22_desc, t22_size, ti59, t59_desc, t59_size, ti60, t60_desc, t60_size, ti61, t61_desc, t61_size, ti3, t3_desc, t3_size, ti40, t40_desc, t40_size, ti33, t33_desc, t33_size, ti9, t9_desc, t9_size, wrow_now, wrow_all, eqnil25, fn17, fn26, fn27, fn28, fn29, fn38, fn39, fn12, fn14, fn15, u2]

/-- The contracts that compare calls. -/
def R39 : Tgt → List Value → ASt → (Value → ASt → Prop) → Prop := fun t args A S =>
  (∃ x y : Nat, t = .fn 48 ∧ args = [.int .u64 (x : Int), .int .u64 (y : Int)] ∧ S = fun v A' => v = .int .i64 (cmpU x y) ∧ A' = A) ∨
  (∃ x y : ByteArray, t = .fn 49 ∧ args = [.string x, .string y] ∧ S = fun v A' => v = .int .i64 (cmpS x y) ∧ A' = A) ∨
  (∃ (B : Nat) (x y : Int) (sz : Nat) (tl : Bool), A.get B = some (.row [.int .i64 x, .int .i64 y] sz tl) ∧ t = .fn 47 ∧ args = [.slice (some ⟨B, 0, none⟩) 2 2] ∧ S = fun v A' => v = .int .i64 (if x ≠ 0 then x else y) ∧ A' = A)
theorem R39_ok (t args A S) (h : R39 t args A S) : CallT Z Try.prog t args A S := by
  rcases h with ⟨x, y, rfl, rfl, rfl⟩ | ⟨x, y, rfl, rfl, rfl⟩ | ⟨B, x, y, sz, tl, hB, rfl, rfl, rfl⟩
  · exact cmp_u
  · exact cmp_s
  · exact or_spec hB
theorem con48 {x y : Nat} {A : ASt} {K : Value → ASt → Prop} (h : K (.int .i64 (cmpU x y)) A) : conC R39 (.fn 48) [.int .u64 (x : Int), .int .u64 (y : Int)] A K := by
  refine ⟨⟨_, .inl ⟨x, y, rfl, rfl, rfl⟩⟩, ?_⟩
  rintro S (⟨x', y', _, ha, rfl⟩ | ⟨_, _, ht, _⟩ | ⟨_, _, _, _, _, _, ht, _⟩) v A' hv
  · obtain ⟨rfl, rfl⟩ := hv
    simp only [List.cons.injEq, Value.int.injEq, Int.natCast_inj, and_true, true_and] at ha
    obtain ⟨rfl, rfl⟩ := ha
    exact h
  · cases ht
  · cases ht
theorem con49 {x y : ByteArray} {A : ASt} {K : Value → ASt → Prop} (h : K (.int .i64 (cmpS x y)) A) : conC R39 (.fn 49) [.string x, .string y] A K := by
  refine ⟨⟨_, .inr (.inl ⟨x, y, rfl, rfl, rfl⟩)⟩, ?_⟩
  rintro S (⟨_, _, ht, _⟩ | ⟨x', y', _, ha, rfl⟩ | ⟨_, _, _, _, _, _, ht, _⟩) v A' hv
  · cases ht
  · obtain ⟨rfl, rfl⟩ := hv
    cases ha
    exact h
  · cases ht
theorem con47 {B : Nat} {x y : Int} {sz : Nat} {tl : Bool} {A : ASt} {K : Value → ASt → Prop} (hB : A.get B = some (.row [.int .i64 x, .int .i64 y] sz tl)) (h : K (.int .i64 (if x ≠ 0 then x else y)) A) : conC R39 (.fn 47) [.slice (some ⟨B, 0, none⟩) 2 2] A K := by
  refine ⟨⟨_, .inr (.inr ⟨B, x, y, sz, tl, hB, rfl, rfl, rfl⟩)⟩, ?_⟩
  rintro S (⟨_, _, ht, _⟩ | ⟨_, _, ht, _⟩ | ⟨B', x', y', sz', tl', hB', _, ha, rfl⟩) v A' hv
  · cases ht
  · cases ht
  · obtain ⟨rfl, rfl⟩ := hv
    simp only [List.cons.injEq, Value.slice.injEq, Option.some.injEq, Addr.mk.injEq, and_true] at ha
    subst ha
    rw [hB] at hB'
    cases hB'
    exact h

theorem box33 {x y : Value} : aBox E0 33 (.agg #[x, y]) = some (.row [x, y] 2 false, ptrTo) := by
  simp only [aBox, ti33, t33_size]; rfl

theorem bs100 {x y : Int} : aBuildSlice E0 100 2 [(0, .int .i64 x), (1, .int .i64 y)] = some (.row [.int .i64 x, .int .i64 y] 1 false, fun id => .slice (some ⟨id, 0, none⟩) 2 2) := by
  simp only [aBuildSlice, ti100, t100_desc, ti3, t3_zero, t3_size]; rfl
theorem compare_spec {A : ASt} {x y : ByteArray × Nat} : CallW Z Try.prog 39 [.agg #[.string x.1, .int .u64 (x.2 : Nat)], .agg #[.string y.1, .int .u64 (y.2 : Nat)]] A (fun v A' => v = .int .i64 (cmpT x y)) := by
  refine CallW.of_code E0_ok E0_ro fn39 rfl (n := 17) rfl (rs := [.tmp 4]) rfl (by simp) (codeW_ok E0_ok E0_ro ?_)
  simp only [oneW_next, s_0, s_1, s_2, s_3, s_4, Hands, handsV, resultsV, oneOrTuple, argsT, ev, evs, evPairs, evOpt, closed, flat, nth, aCall, aEnter, notYield, aNilCheck, aLoad, partV, isAggD, aFieldAddr, aField, aExtract, Option.isNone, aBuiltin, cond_true, cond_false, cond_dec, if_true, if_false, List.length_cons, List.length_nil, forall_const, implies_true, List.append_nil, List.cons_append, List.nil_append, eq_self, Nat.reduceEqDiff, Nat.reduceAdd, Nat.reduceMul, Nat.reduceSub, Nat.reduceLT, Nat.reduceLeDiff, Nat.reduceBEq, reduceIte, reduceCtorEq, ti63, t63_desc, t63_size, ti25, t25_desc, ti22, t22_desc, t22_size, ti59, t59_desc, t59_size, ti60, t60_desc, t60_size, ti61, t61_desc, t61_size, ti3, t3_desc, t3_size, ti40, t40_desc, t40_size, ti33, t33_desc, t33_size, ti9, t9_desc, t9_size, wrow_now, wrow_all, eqnil25, fn17, fn26, fn27, fn28, fn29, fn38, fn39, fn12, fn14, fn15, box33, ptrTo]
  refine CodeW.seqd E0_ok E0_ro mixed R39_ok [0, 1, 2, 3, 5, 6, 7, 8, 4, 9, 10, 11, 12] [4, 5, 6, 7] (by simp only [reorder, reoGo, strip, List.map_cons, List.map_nil, opAt, remap, nth, Option.map, σ, place', nbeq, List.length_cons, List.length_nil, Nat.reduceAdd, Nat.reduceLT, Nat.reduceEqDiff, if_true, if_false, reduceIte]; rfl) (by decide +kernel) (by kernel_rfl) (by kernel_rfl) (by kernel_rfl) ?_
  generalize hCd : ASt.new (ASt.new A _) _ = C
  have c1 : C.get A.next = some (.row [.string x.1, .int .u64 (x.2 : Nat)] 2 false) := by
    rw [← hCd, ASt.get_new, if_neg (by rw [ASt.next_new]; omega), ASt.get_new, if_pos rfl]
  have c2 : C.get (A.next + 1) = some (.row [.string y.1, .int .u64 (y.2 : Nat)] 2 false) := by
    rw [← hCd, ASt.get_new, if_pos (by rw [ASt.next_new])]
  have hCn : A.next + 2 = C.next := by rw [← hCd]; simp only [ASt.next_new]
  clear hCd
  simp only [oneW_next, s_0, s_1, s_2, s_3, s_4, Hands, handsV, resultsV, oneOrTuple, argsT, ev, evs, evPairs, evOpt, closed, flat, nth, aCall, aEnter, notYield, aNilCheck, aLoad, partV, isAggD, aFieldAddr, aField, aExtract, Option.isNone, aBuiltin, cond_true, cond_false, cond_dec, if_true, if_false, List.length_cons, List.length_nil, forall_const, implies_true, List.append_nil, List.cons_append, List.nil_append, eq_self, Nat.reduceEqDiff, Nat.reduceAdd, Nat.reduceMul, Nat.reduceSub, Nat.reduceLT, Nat.reduceLeDiff, Nat.reduceBEq, reduceIte, reduceCtorEq, ti63, t63_desc, t63_size, ti25, t25_desc, ti22, t22_desc, t22_size, ti59, t59_desc, t59_size, ti60, t60_desc, t60_size, ti61, t61_desc, t61_size, ti3, t3_desc, t3_size, ti40, t40_desc, t40_size, ti33, t33_desc, t33_size, ti9, t9_desc, t9_size, wrow_now, wrow_all, eqnil25, fn17, fn26, fn27, fn28, fn29, fn38, fn39, fn12, fn14, fn15, q_0, q_1, q_2, f_0, pendW, hasN, reorder, E0_ron, exists_eq', List.length_cons, List.length_nil, c1, c2, fn47, fn48, fn49]
  refine con48 ?_
  simp only [oneW_next, s_0, s_1, s_2, s_3, s_4, Hands, handsV, resultsV, oneOrTuple, argsT, ev, evs, evPairs, evOpt, closed, flat, nth, aCall, aEnter, notYield, aNilCheck, aLoad, partV, isAggD, aFieldAddr, aField, aExtract, Option.isNone, aBuiltin, cond_true, cond_false, cond_dec, if_true, if_false, List.length_cons, List.length_nil, forall_const, implies_true, List.append_nil, List.cons_append, List.nil_append, eq_self, Nat.reduceEqDiff, Nat.reduceAdd, Nat.reduceMul, Nat.reduceSub, Nat.reduceLT, Nat.reduceLeDiff, Nat.reduceBEq, reduceIte, reduceCtorEq, ti63, t63_desc, t63_size, ti25, t25_desc, ti22, t22_desc, t22_size, ti59, t59_desc, t59_size, ti60, t60_desc, t60_size, ti61, t61_desc, t61_size, ti3, t3_desc, t3_size, ti40, t40_desc, t40_size, ti33, t33_desc, t33_size, ti9, t9_desc, t9_size, wrow_now, wrow_all, eqnil25, fn17, fn26, fn27, fn28, fn29, fn38, fn39, fn12, fn14, fn15, q_0, q_1, q_2, f_0, pendW, hasN, reorder, E0_ron, exists_eq', List.length_cons, List.length_nil, c1, c2, fn47, fn48, fn49]
  refine con49 ?_
  simp only [oneW_next, s_0, s_1, s_2, s_3, s_4, Hands, handsV, resultsV, oneOrTuple, argsT, ev, evs, evPairs, evOpt, closed, flat, nth, aCall, aEnter, notYield, aNilCheck, aLoad, partV, isAggD, aFieldAddr, aField, aExtract, Option.isNone, aBuiltin, cond_true, cond_false, cond_dec, if_true, if_false, List.length_cons, List.length_nil, forall_const, implies_true, List.append_nil, List.cons_append, List.nil_append, eq_self, Nat.reduceEqDiff, Nat.reduceAdd, Nat.reduceMul, Nat.reduceSub, Nat.reduceLT, Nat.reduceLeDiff, Nat.reduceBEq, reduceIte, reduceCtorEq, ti63, t63_desc, t63_size, ti25, t25_desc, ti22, t22_desc, t22_size, ti59, t59_desc, t59_size, ti60, t60_desc, t60_size, ti61, t61_desc, t61_size, ti3, t3_desc, t3_size, ti40, t40_desc, t40_size, ti33, t33_desc, t33_size, ti9, t9_desc, t9_size, wrow_now, wrow_all, eqnil25, fn17, fn26, fn27, fn28, fn29, fn38, fn39, fn12, fn14, fn15, q_0, q_1, q_2, f_0, pendW, hasN, reorder, E0_ron, exists_eq', List.length_cons, List.length_nil, c1, c2, fn47, fn48, fn49, bs100]
  have n1 : A.next + 2 = C.next := hCn
  generalize hDd : ASt.set _ _ (.row [.int .i64 (cmpU x.2 y.2), .int .i64 (cmpS x.1 y.1)] 1 false) = D
  have d0 : ∀ b, b ≠ C.next + 10 → D.get b = C.get b := fun b hb => by rw [← hDd, ASt.get_set, if_neg hb]; rfl
  have d1 := (d0 A.next (by omega)).trans c1
  have d2 := (d0 (A.next + 1) (by omega)).trans c2
  have d3 : D.get (C.next + 10) = some (.row [.int .i64 (cmpU x.2 y.2), .int .i64 (cmpS x.1 y.1)] 1 false) := by rw [← hDd, ASt.get_set, if_pos rfl]
  clear hDd
  refine con47 d3 ?_
  simp only [oneW_next, s_0, s_1, s_2, s_3, s_4, Hands, handsV, resultsV, oneOrTuple, argsT, ev, evs, evPairs, evOpt, closed, flat, nth, aCall, aEnter, notYield, aNilCheck, aLoad, partV, isAggD, aFieldAddr, aField, aExtract, Option.isNone, aBuiltin, cond_true, cond_false, cond_dec, if_true, if_false, List.length_cons, List.length_nil, forall_const, implies_true, List.append_nil, List.cons_append, List.nil_append, eq_self, Nat.reduceEqDiff, Nat.reduceAdd, Nat.reduceMul, Nat.reduceSub, Nat.reduceLT, Nat.reduceLeDiff, Nat.reduceBEq, reduceIte, reduceCtorEq, ti63, t63_desc, t63_size, ti25, t25_desc, ti22, t22_desc, t22_size, ti59, t59_desc, t59_size, ti60, t60_desc, t60_size, ti61, t61_desc, t61_size, ti3, t3_desc, t3_size, ti40, t40_desc, t40_size, ti33, t33_desc, t33_size, ti9, t9_desc, t9_size, wrow_now, wrow_all, eqnil25, fn17, fn26, fn27, fn28, fn29, fn38, fn39, fn12, fn14, fn15, q_0, q_1, q_2, f_0, pendW, hasN, reorder, E0_ron, exists_eq', List.length_cons, List.length_nil, d1, d2]
  unfold cmpT
  rfl
end Go.Proofs.Ytpmpclieclcbdaa

/- The sort of timers. -/
namespace Go.Proofs.Ytpmpclieclcbdaa
open Go Go.AE Go.Sort

set_option maxRecDepth 10000

theorem grow_of_below {W w' : World} (hb : Go.RowKit.Below W.heap.size W w') (hd : W.drawn ≤ w'.drawn) : ∃ q os', w' = grow (W.drewN q) os' := by
  refine ⟨w'.drawn - W.drawn, w'.heap.extract W.heap.size w'.heap.size, ?_⟩
  obtain ⟨heap, tape, drawn, os, output⟩ := w'
  have h1 := hb.os
  have h2 := hb.tape
  have h3 := hb.output
  have h4 := hb.size
  have h5 := hb.block
  simp only at h1 h2 h3 h4 h5 hd
  subst h1 h2 h3
  unfold grow World.drewN
  have eh : heap = W.heap ++ heap.extract W.heap.size heap.size := by
    apply Array.ext_getElem?
    intro i
    rw [Array.getElem?_append]
    split
    · rename_i hi
      exact h5 i hi
    · rename_i hi
      rw [Array.getElem?_extract]
      by_cases hlt : i < heap.size
      · rw [if_pos (by omega)]
        congr 1; omega
      · rw [if_neg (by omega)]
        simp; omega
  have ed : drawn = W.drawn + (drawn - W.drawn) := by omega
  simp only [World.mk.injEq, and_true, true_and]
  exact ⟨eh, ed⟩

theorem cmp_calls (x y : ByteArray × Nat) (W : World) : Calls Try.prog 39 #[.agg #[.string x.1, .int .u64 (x.2 : Nat)], .agg #[.string y.1, .int .u64 (y.2 : Nat)]] W fun e w' => e = .returned (.int .i64 (cmpT x y)) ∧ ∃ q os', w' = grow (W.drewN q) os' := by
  have ha : VsRel (rawRen []) [.agg #[.string x.1, .int .u64 (x.2 : Nat)], .agg #[.string y.1, .int .u64 (y.2 : Nat)]] (#[Value.agg #[.string x.1, .int .u64 (x.2 : Nat)], .agg #[.string y.1, .int .u64 (y.2 : Nat)]] : Array Value).toList :=
    .cons (.refl_closed rfl) (.cons (.refl_closed rfl) .nil)
  refine (compare_spec (Z := roadRaw [] W) (A := startAt 0) (x := x) (y := y) (rawRen []) W _ (Step.refl (rep_start [] W)) ha).mono ?_
  rintro e w' ⟨v, A', v', ρ', rfl, rfl, hv, hst⟩
  cases hv
  exact ⟨rfl, grow_of_below (Step.below (n := 0) hst) hst.drawn⟩

/-! ### the order -/
theorem bl_irr : ∀ l : List UInt8, bytesLt l l = false
  | [] => rfl
  | a :: l => by simp only [bytesLt, Nat.beq_refl, cond_true]; exact bl_irr l
theorem bl_trans : ∀ {a b c : List UInt8}, bytesLt a b = true → bytesLt b c = true → bytesLt a c = true
  | [], [], _, h, _ => by cases h
  | [], _ :: _, [], _, h => by cases h
  | [], _ :: _, _ :: _, _, _ => rfl
  | _ :: _, [], _, h, _ => by cases h
  | _ :: _, _ :: _, [], _, h => by cases h
  | x :: a, y :: b, z :: c, h1, h2 => by
    simp only [bytesLt] at h1 h2 ⊢
    by_cases e1 : x.toNat = y.toNat
    · rw [e1] at h1 ⊢
      simp only [Nat.beq_refl, cond_true] at h1
      by_cases e2 : y.toNat = z.toNat
      · rw [e2] at h2 ⊢
        simp only [Nat.beq_refl, cond_true] at h2 ⊢
        exact bl_trans h1 h2
      · have hb : Nat.beq y.toNat z.toNat = false := by rw [nbeq]; simp [e2]
        simp only [hb, cond_false] at h2 ⊢
        exact h2
    · have hb : Nat.beq x.toNat y.toNat = false := by rw [nbeq]; simp [e1]
      simp only [hb, cond_false, nblt, decide_eq_true_eq] at h1
      by_cases e2 : y.toNat = z.toNat
      · have hb2 : Nat.beq x.toNat z.toNat = false := by rw [nbeq]; simp; omega
        simp only [hb2, cond_false, nblt, decide_eq_true_eq]
        omega
      · have hb3 : Nat.beq y.toNat z.toNat = false := by rw [nbeq]; simp [e2]
        simp only [hb3, cond_false, nblt, decide_eq_true_eq] at h2
        have hb2 : Nat.beq x.toNat z.toNat = false := by rw [nbeq]; simp; omega
        simp only [hb2, cond_false, nblt, decide_eq_true_eq]
        omega
theorem bl_tri : ∀ {a b : List UInt8}, bytesLt a b = false → bytesLt b a = false → a = b
  | [], [], _, _ => rfl
  | [], _ :: _, h, _ => by cases h
  | _ :: _, [], _, h => by cases h
  | x :: a, y :: b, h1, h2 => by
    simp only [bytesLt] at h1 h2
    by_cases e1 : x.toNat = y.toNat
    · have exy : x = y := UInt8.toNat_inj.1 e1
      subst exy
      simp only [Nat.beq_refl, cond_true] at h1 h2
      rw [bl_tri h1 h2]
    · have hb : Nat.beq x.toNat y.toNat = false := by rw [nbeq]; simp [e1]
      have hb2 : Nat.beq y.toNat x.toNat = false := by rw [nbeq]; simp; omega
      simp only [hb, hb2, cond_false, nblt, decide_eq_false_iff_not] at h1 h2
      omega

theorem blt_irr (x : ByteArray) : blt x x = false := bl_irr _
theorem blt_trans {x y z : ByteArray} (h : blt x y = true) (k : blt y z = true) : blt x z = true := bl_trans h k
theorem blt_tri {x y : ByteArray} (h : blt x y = false) (k : blt y x = false) : x = y := ByteArray.ext (Array.ext' (bl_tri h k))
theorem blt_asym {x y : ByteArray} (h : blt x y = true) : blt y x = false := by
  cases hk : blt y x with
  | false => rfl
  | true => have := blt_trans h hk; rw [blt_irr] at this; cases this

theorem ltT (x y : ByteArray × Nat) : ltOf cmpT x y = true ↔ tlt x y := by
  unfold ltOf tlt cmpT cmpU cmpS
  rw [decide_eq_true_eq]
  rcases Nat.lt_trichotomy x.2 y.2 with h | h | h
  · simp [h]
  · have h1 : ¬ x.2 < y.2 := by omega
    have h2 : ¬ y.2 < x.2 := by omega
    rw [if_neg h1, if_neg h2, if_neg (by simp)]
    cases hb : blt x.1 y.1 with
    | true => simp [h]
    | false => cases hc : blt y.1 x.1 <;> simp [h]
  · have h1 : ¬ x.2 < y.2 := by omega
    have h3 : ¬ x.2 = y.2 := by omega
    simp [h, h1, h3]
theorem tlt_irr (x : ByteArray × Nat) : ¬ tlt x x := by
  rintro (h | ⟨_, h⟩)
  · omega
  · rw [blt_irr] at h; cases h
theorem tlt_trans {x y z : ByteArray × Nat} (h : tlt x y) (k : tlt y z) : tlt x z := by
  rcases h with h | ⟨h1, h2⟩ <;> rcases k with k | ⟨k1, k2⟩
  · exact .inl (by omega)
  · exact .inl (by omega)
  · exact .inl (by omega)
  · exact .inr ⟨by omega, blt_trans h2 k2⟩
theorem tlt_tri {x y : ByteArray × Nat} (h : ¬ tlt x y) (k : ¬ tlt y x) : x = y := by
  unfold tlt at h k
  have e : x.2 = y.2 := by omega
  have h1 : blt x.1 y.1 = false := by
    cases hb : blt x.1 y.1 with
    | false => rfl
    | true => exact absurd (.inr ⟨e, hb⟩) h
  have h2 : blt y.1 x.1 = false := by
    cases hb : blt y.1 x.1 with
    | false => rfl
    | true => exact absurd (.inr ⟨e.symm, hb⟩) k
  exact Prod.ext (blt_tri h1 h2) e

theorem ltF (x y : ByteArray × Nat) : ltOf cmpT x y = false ↔ ¬ tlt x y := by
  rw [← ltT, Bool.not_eq_true]
theorem swoT : SWO (ltOf cmpT) where
  irrefl x := (ltF x x).2 (tlt_irr x)
  trans x y z h1 h2 := (ltT x z).2 (tlt_trans ((ltT x y).1 h1) ((ltT y z).1 h2))
  ntrans x y z h1 h2 := by
    rw [ltF] at h1 h2 ⊢
    intro h
    by_cases k : tlt y x
    · exact h2 (tlt_trans k h)
    · have := tlt_tri h1 k
      subst this
      exact h2 h
theorem totT (x y : ByteArray × Nat) (h : ltOf cmpT x y = false) (k : ltOf cmpT y x = false) : x = y := tlt_tri ((ltF x y).1 h) ((ltF y x).1 k)
end Go.Proofs.Ytpmpclieclcbdaa

/- slices.SortFunc at timers. -/
namespace Go.Proofs.Ytpmpclieclcbdaa
open Go Go.AE Go.Sort

variable {Z : Go.AE.Road}
set_option maxRecDepth 10000

def encT (x : ByteArray × Nat) : List Value := [.string x.1, .int .u64 (x.2 : Nat)]
theorem tcells_len : ∀ ts : List (ByteArray × Nat), (tcells ts).length = 2 * ts.length
  | [] => rfl
  | x :: l => by simp only [tcells, List.length_cons, tcells_len l]; omega
theorem tcells_get : ∀ (ts : List (ByteArray × Nat)) (j : Nat), j < 2 * ts.length → (tcells ts)[j]? = some (encT (ts[j / 2]!))[j % 2]!
  | [], j, h => by simp at h
  | x :: l, 0, _ => rfl
  | x :: l, 1, _ => rfl
  | x :: l, j + 2, h => by
    have h' : j < 2 * l.length := by simp at h; omega
    have e1 : (j + 2) / 2 = j / 2 + 1 := by omega
    have e2 : (j + 2) % 2 = j % 2 := by omega
    have e3 : (x :: l)[j / 2 + 1]! = l[j / 2]! := by simp
    rw [e1, e2, e3, ← tcells_get l j h']
    simp [tcells]
theorem flat_get (ts : List (ByteArray × Nat)) (j : Nat) (h : j < 2 * ts.length) : (tcells ts)[j]? = some (flatK encT 2 ts.toArray)[j]! := by
  rw [get_flatK _ _ _ _ (by simp; omega), tcells_get ts j h]
  simp
theorem encT_closed (x : ByteArray × Nat) (r : Nat) (h : r < 2) : flat (encT x)[r]! = true := by
  rcases r with _ | _ | r
  · rfl
  · rfl
  · omega

theorem sort_spec {A : ASt} {b cap sz : Nat} {tl : Bool} {ts : List (ByteArray × Nat)} {rest : List Value} (hb : A.get b = some (.row (tcells ts ++ rest) sz tl)) (hne : ts ≠ []) (hlen : ts.length < 4611686018427387904) :
    CallW Z Try.prog 38 [.slice (some ⟨b, 0, none⟩) ts.length cap, .func (.func 39) #[] #[]] A (fun v A' => A' = A.set b (.row (tcells (ts.mergeSort fun x y => !(ltOf cmpT) y x) ++ rest) sz tl)) := by
  intro ρ w args' hR ha
  have hrep := Z.rep hR
  obtain ⟨L, hL, cells, el, lo, hi, e1, e2, e3, e4, e5, e6⟩ := hrep.obj b _ hb
  obtain ⟨l⟩ := args'
  obtain ⟨cap', rfl⟩ : ∃ cap', l = [.slice (some ⟨L.B, L.o + 0, none⟩) ts.length cap', .func (.func 39) #[] #[]] := by
    have ha : VsRel ρ _ l := ha
    cases ha with
    | cons h1 h2 =>
      cases h2 with
      | cons h2 h3 =>
        cases h3
        have hf : ∀ {v : Value}, VRel ρ (.func (.func 39) #[] #[]) v → v = .func (.func 39) #[] #[] := by
          intro v hv
          cases hv with
          | func _ _ hs _ hc _ =>
            rw [Array.eq_empty_of_size_eq_zero hs.symm, Array.eq_empty_of_size_eq_zero hc.symm]
        rw [hf h2]
        generalize hs : Value.slice (some ⟨b, 0, none⟩) ts.length cap = s at h1
        cases h1 <;> first | cases hs | skip
        · rename_i L' hL' _
          rw [hL] at hL'
          cases hL'
          exact ⟨_, rfl⟩
        · rename_i L' hL' _ _
          rw [hL] at hL'
          cases hL'
          exact ⟨_, rfl⟩
  have hn2 := tcells_len ts
  have hin : ∀ j, j < 2 * ts.length → L.o + j < cells.size := fun j hj => by
    simp only [List.length_append] at e4; omega
  have hcell : ∀ j, j < 2 * ts.length → cells[L.o + j]? = some (flatK encT 2 ts.toArray)[j]! := fun j hj => by
    obtain ⟨v', h1, h2⟩ := e5 j _ (by rw [List.getElem?_append_left (by omega)]; exact flat_get ts j hj)
    rw [h1]
    congr 1
    rw [get_flatK _ _ _ _ (by simp; omega)] at h2 ⊢
    exact flat_eq (encT_closed _ _ (Nat.mod_lt _ (by omega))) h2
  have hH : HoldsK encT 2 w L.B (L.o + 0) ts.toArray := by
    intro j hj
    have hj2 : j < 2 * ts.length := by simp at hj; omega
    refine ⟨?_, ?_⟩
    · simp only [World.cell?, e1, Nat.add_zero]
      simpa using hcell j hj2
    · simp only [World.frozen?, e1, Nat.add_zero]
      have := e6 (L.o + j) (by omega) (by
        simp only [AObj.hi, List.length_append]
        have := hin j hj2
        split <;> omega)
      simpa using this
  have hblk : L.B < w.heap.size := (Array.getElem?_eq_some_iff.1 e1).1
  have eg : ∀ args w, (callFunc 39 args).run Try.prog w = .ok (.enter 39 args) w := enters_of Try.func39 (by kernel_rfl) rfl
  have hcon := AnyQ.slices_SortFunc_total Try.sortT 2 Try.isAgg33 Try.sizeOf33 encT (fun _ => rfl) (fun x v hv => by simp [encT] at hv; rcases hv with rfl | rfl <;> rfl) cmpT swoT 39 #[] L.B (L.o + 0) cap' ts.toArray w eg (fun _ _ _ _ x y => cmp_calls x y _) hH hblk (by simpa using hlen) totT
  have hcon' : Calls Try.prog 38 #[.slice (some ⟨L.B, L.o + 0, none⟩) ts.length cap', .func (.func 39) #[] #[]] w fun e w' => e = .returned (.tuple #[]) ∧ ∃ n os, w' = sortWorldK encT 2 w L.B (L.o + 0) n (ts.mergeSort fun x y => !(ltOf cmpT) y x).toArray os := by
    have h38 : Try.sortT_ren.f 6 = 38 := rfl
    have := hcon
    rw [h38] at this
    simpa using this
  refine hcon'.mono ?_
  rintro e w' ⟨rfl, n, os, rfl⟩
  have hlts : (ts.mergeSort fun x y => !(ltOf cmpT) y x).length = ts.length := List.length_mergeSort _
  generalize (ts.mergeSort fun x y => !(ltOf cmpT) y x) = ts' at hlts ⊢
  have hn2' := tcells_len ts'
  have st1 : Step ρ A w ρ A (Sort.ahead w n) := Step.of_below hrep ⟨rfl, rfl, rfl, Nat.le_refl _, fun _ _ => rfl⟩ (Nat.le_add_right _ _)
  have hcells' : (putRowK encT 2 (Sort.ahead w n) L.B (L.o + 0) ts'.toArray).heap[L.B]? = some (.cells (putCells id (L.o + 0) (flatK encT 2 ts'.toArray) cells) el (lo, hi)) := by
    simp only [putRowK, putRow, mapBlock, Sort.ahead, Array.getElem?_modify, if_true, e1, Option.map_some, onCells]
  have hother : ∀ B, B ≠ L.B → (putRowK encT 2 (Sort.ahead w n) L.B (L.o + 0) ts'.toArray).heap[B]? = (Sort.ahead w n).heap[B]? := fun B hB => by
    simp only [putRowK, putRow, mapBlock, Sort.ahead, Array.getElem?_modify, if_neg (Ne.symm hB)]
  have hput : ∀ j, (putCells id (L.o + 0) (flatK encT 2 ts'.toArray) cells)[j]? = if L.o ≤ j ∧ j < L.o + 2 * ts.length then (if j < cells.size then some (flatK encT 2 ts'.toArray)[j - L.o]! else none) else cells[j]? := fun j => by
    simp only [putCells, Array.getElem?_mapIdx, Nat.add_zero, size_flatK, List.size_toArray, hlts]
    by_cases hj : j < cells.size
    · have e : cells[j]? = some cells[j] := by simp [hj]
      simp only [e, Option.map_some, id]
      by_cases hc : L.o ≤ j ∧ j < L.o + 2 * ts.length
      · rw [if_pos ⟨hc.1, by omega⟩, if_pos hc, if_pos hj]
      · rw [if_neg (by omega), if_neg hc]
    · have e : cells[j]? = none := by simp; omega
      simp [e, hj]
  have hsize : (putCells id (L.o + 0) (flatK encT 2 ts'.toArray) cells).size = cells.size := by simp [putCells]
  generalize putCells id (L.o + 0) (flatK encT 2 ts'.toArray) cells = cells' at hcells' hput hsize
  have hlen' : (tcells ts' ++ rest).length = (tcells ts ++ rest).length := by simp only [List.length_append]; omega
  have hrow : ORel ρ (.row (tcells ts' ++ rest) sz tl) L (putRowK encT 2 (Sort.ahead w n) L.B (L.o + 0) ts'.toArray) := by
    refine ⟨cells', el, lo, hi, hcells', by rw [hsize]; exact e2, e3, by rw [hlen']; exact e4, fun i v hv => ?_, fun j h1 h2 => e6 j h1 ?_⟩
    · by_cases hi : i < 2 * ts.length
      · rw [List.getElem?_append_left (by omega), flat_get ts' i (by omega)] at hv
        cases hv
        refine ⟨_, ?_, .refl_flat (v := (flatK encT 2 ts'.toArray)[i]!) ?_⟩
        · rw [hput, if_pos ⟨by omega, by omega⟩, if_pos (hin i hi), Nat.add_sub_cancel_left]
        · rw [get_flatK _ _ _ _ (by simp; omega)]
          exact encT_closed _ _ (Nat.mod_lt _ (by omega))
      · rw [List.getElem?_append_right (by omega)] at hv
        obtain ⟨v', h1, h2⟩ := e5 i v (by rw [List.getElem?_append_right (by omega)]; rw [← hv]; congr 1; omega)
        exact ⟨v', by rw [hput, if_neg (by omega)]; exact h1, h2⟩
    · simp only [AObj.hi] at h2 ⊢
      rw [hlen'] at h2
      exact h2
  have st2 : Step ρ A (Sort.ahead w n) ρ (A.set b (.row (tcells ts' ++ rest) sz tl)) (putRowK encT 2 (Sort.ahead w n) L.B (L.o + 0) ts'.toArray) :=
    Step.set st1.rep hb hL hrow (by simp only [AObj.hi, hlen']; exact Nat.le_refl _) ⟨rfl, rfl, rfl, by simp [putRowK, putRow, mapBlock], Nat.le_refl _⟩ hother (.inr ⟨cells, cells', el, (lo, hi), e1, hcells', hsize, fun j hj => by
      rw [hput, if_neg]
      intro hc
      refine hj ⟨hc.1, ?_⟩
      simp only [AObj.hi, List.length_append]
      have := hin (j - L.o) (by omega)
      split <;> omega⟩)
  have st3 : Step ρ (A.set b (.row (tcells ts' ++ rest) sz tl)) (putRowK encT 2 (Sort.ahead w n) L.B (L.o + 0) ts'.toArray) ρ (A.set b (.row (tcells ts' ++ rest) sz tl)) (grow (putRowK encT 2 (Sort.ahead w n) L.B (L.o + 0) ts'.toArray) os) :=
    Step.of_below st2.rep ⟨rfl, rfl, rfl, by simp [grow], fun k hk => by simp only [grow]; rw [Array.getElem?_append_left hk]⟩ (Nat.le_refl _)
  exact ⟨.tuple #[], _, .tuple #[], ρ, rfl, rfl, .refl_closed rfl, (st1.trans st2).trans st3⟩
end Go.Proofs.Ytpmpclieclcbdaa

/- A set's timers in order. -/
namespace Go.Proofs.Ytpmpclieclcbdaa
open Go Go.AE Go.Sort

variable {Z : Go.AE.Road}
set_option maxRecDepth 10000

theorem sort_none {A : ASt} : CallW Z Try.prog 38 [.slice none 0 0, .func (.func 39) #[] #[]] A (fun v A' => A' = A) := by
  intro ρ w args' hR ha
  have e : args' = #[.slice none 0 0, .func (.func 39) #[] #[]] := by
    obtain ⟨l⟩ := args'
    have ha : VsRel ρ _ l := ha
    cases ha with
    | cons h1 h2 =>
      cases h2 with
      | cons h2 h3 =>
        cases h3
        cases h1
        cases h2 with
        | func _ _ hs _ hc _ =>
          rw [Array.eq_empty_of_size_eq_zero hs.symm, Array.eq_empty_of_size_eq_zero hc.symm]
  subst e
  have hcon := AnyF.slices_SortFunc_none Try.sortT none 0 (.func (.func 39) #[] #[]) w
  have h38 : Try.sortT_ren.f 6 = 38 := rfl
  rw [h38] at hcon
  refine hcon.mono ?_
  rintro e w' ⟨rfl, rfl⟩
  exact ⟨.tuple #[], A, .tuple #[], ρ, rfl, rfl, .refl_closed rfl, .refl (Z.rep hR)⟩

theorem t33_zero : t33.zero = some (.agg #[.string ByteArray.empty, .int .u64 0]) := by kernel_rfl
theorem t33_bytes : t33.bytes = 24 := by kernel_rfl

theorem z33a : closed (.agg #[.string ByteArray.empty, .int .u64 0]) = true := by kernel_rfl
theorem z33b : Nat.beq (Value.agg #[.string ByteArray.empty, .int .u64 0]).cells.toList.length 2 = true := by kernel_rfl
theorem sg2 {n : ByteArray} {a : Int} : singles [.string n, .int .u64 a] = true := rfl
theorem cut2 {x y : Value} : (bif (List.take (1 * 2) (List.drop 0 [x, y])).length.beq (1 * 2) then some (List.take (1 * 2) (List.drop 0 [x, y])) else none) = some [x, y] := rfl
theorem isl : isIntD (.slice 33) = false := rfl

theorem app_nil {A : ASt} {x : Nat} {n : ByteArray} {a : Int} {tl : Bool} (hx : A.get x = some (.row [.string n, .int .u64 a] 2 tl)) :
    aAppend E0 30 30 (.slice none 0 0) (.slice (some ⟨x, 0, none⟩) 1 1) A = .val (.slice (some ⟨A.next, 0, none⟩) 1 unk) (A.new (.row [.string n, .int .u64 a] 2 true)) := by
  simp only [aAppend, ti30, t30_desc, ti33, lenV, t33_zero, t33_size, t33_bytes, srcCells, hx, cut, cut2, z33a, z33b, sg2, isl]
  show appendTo 2 none 0 0 1 [.string n, .int .u64 a] A = _
  simp only [appendTo, grown_eq]
  rfl
theorem app_row {A : ASt} {x b len : Nat} {c : List Value} {n : ByteArray} {a : Int} {tl : Bool} (hx : A.get x = some (.row [.string n, .int .u64 a] 2 tl)) (hb : A.get b = some (.row c 2 true)) (hc : c.length = 2 * len) (hl : len ≤ 1000000) :
    aAppend E0 30 30 (.slice (some ⟨b, 0, none⟩) len unk) (.slice (some ⟨x, 0, none⟩) 1 1) A = .val (.slice (some ⟨A.next, 0, none⟩) (len + 1) unk) ((A.set b (.row [] 2 false)).new (.row (c ++ [.string n, .int .u64 a]) 2 true)) := by
  have h1 : Nat.blt ((len + 1) * (24 + 1)) 1000000000 = true := Nat.ble_eq_true_of_le (by omega)
  have h2 : Nat.ble (0 + len * 2) c.length = true := Nat.ble_eq_true_of_le (by omega)
  have h3 : Nat.ble (0 + (len + 1) * 2) c.length = false := by rw [nble]; simp; omega
  have h4 : Nat.beq (0 + len * 2) c.length = true := by rw [nbeq]; simp; omega
  simp only [aAppend, ti30, t30_desc, ti33, lenV, t33_zero, t33_size, t33_bytes, srcCells, hx, cut, cut2, z33a, z33b, sg2, isl, h1]
  show appendTo 2 (some ⟨b, 0, none⟩) len unk 1 [.string n, .int .u64 a] A = _
  simp only [appendTo, hb, h2, h3, h4, grown_eq, Nat.beq_refl, Bool.and_self, cond_true, cond_false, List.take_zero, List.drop_zero]
  rfl
end Go.Proofs.Ytpmpclieclcbdaa

/- A set's timers in order: the walk. -/
namespace Go.Proofs.Ytpmpclieclcbdaa
open Go Go.AE Go.Sort

variable {Z : Go.AE.Road}
set_option maxRecDepth 10000

/-- At most a thousand timers. -/
def Few (M : TM) : Prop := ∃ l : List ByteArray, l.length ≤ 1000 ∧ ∀ k, (M k).isSome = true → k ∈ l
theorem nodup_leG {α : Type} {l : List α} : ∀ {d : List α}, d.Nodup → (∀ x ∈ d, x ∈ l) → d.length ≤ l.length := by
  induction l with
  | nil =>
    intro d _ hs
    cases d with
    | nil => simp
    | cons x d => exact absurd (hs x (by simp)) (by simp)
  | cons y l ih =>
    intro d hd hs
    classical
    by_cases hy : y ∈ d
    · obtain ⟨s, t, rfl⟩ := List.append_of_mem hy
      have hd' : (s ++ t).Nodup ∧ y ∉ s ++ t := by
        have h1 : (s ++ y :: t).Perm (y :: (s ++ t)) := List.perm_middle
        have h2 := (h1.nodup_iff).1 hd
        simp only [List.nodup_cons] at h2
        exact ⟨h2.2, h2.1⟩
      have h1 := ih hd'.1 (fun x hx => by
        rcases List.mem_cons.1 (hs x (by rcases List.mem_append.1 hx with h | h <;> simp [h])) with e | e
        · exact absurd (e ▸ hx) hd'.2
        · exact e)
      simp only [List.length_append, List.length_cons] at h1 ⊢; omega
    · have h1 := ih (d := d) hd (fun x hx => by
        rcases List.mem_cons.1 (hs x hx) with e | e
        · exact absurd (e ▸ hx) hy
        · exact e)
      simp only [List.length_cons]; omega
theorem Few.len {D : TM} (h : Few D) {es : List UE} {ck : Nat} (hok : MapOK es ck) (hg : ∀ k, uget es k = D k) : es.length ≤ 1000 := by
  obtain ⟨l, h1, h2⟩ := h
  have := nodup_leG (d := es.map (·.1)) (l := l) hok.keys (fun k hk => by
    obtain ⟨x, hx, rfl⟩ := List.mem_map.1 hk
    refine h2 _ ?_
    rw [← hg, uget_mem hok.keys hx]; rfl)
  simp only [List.length_map] at this
  omega

theorem build33 {n : ByteArray} {a : Int} : aBuild E0 33 [(0, .string n), (1, .int .u64 a)] = some (.agg #[.string n, .int .u64 a]) := by kernel_rfl
theorem bs30 {n : ByteArray} {a : Int} : aBuildSlice E0 30 1 [(0, .agg #[.string n, .int .u64 a])] = some (.row [.string n, .int .u64 a] 2 false, fun id => .slice (some ⟨id, 0, none⟩) 1 1) := by kernel_rfl

def pr (x : UE) : ByteArray × Nat := (x.1, x.2.1)
/-- The timers so far. -/
def OutS (A : ASt) (T' : Tmps) (A' : ASt) (done : List UE) : Prop :=
  Fr [] A A' ∧ A.next < A'.next ∧ ((done = [] ∧ tget T' 3 = .slice none 0 0) ∨ (done ≠ [] ∧ ∃ b, tget T' 3 = .slice (some ⟨b, 0, none⟩) done.length unk ∧ A'.get b = some (.row (tcells (done.map pr)) 2 true) ∧ A.next < b ∧ b < A'.next))

theorem tcells_snoc (l : List (ByteArray × Nat)) (x : ByteArray × Nat) : tcells (l ++ [x]) = tcells l ++ [.string x.1, .int .u64 (x.2 : Nat)] := by
  induction l with
  | nil => rfl
  | cons y l ih => simp only [List.cons_append, tcells, ih]

theorem sorted_list {D : TM} {ck : Nat} {es done : List UE} (hok : MapOK es ck) (hg : ∀ k, uget es k = D k) (hsub : ∀ x ∈ done, x ∈ es) (hall : ∀ x ∈ es, x ∈ done) (hnd : done.Nodup) : Lists D ((done.map pr).mergeSort fun x y => !(ltOf cmpT) y x) := by
  obtain ⟨hk, hu⟩ := uget_all hok hsub hall hnd
  have hp := List.mergeSort_perm (done.map pr) (fun x y => !(ltOf cmpT) y x)
  refine ⟨fun k a => ?_, ?_⟩
  · rw [hp.mem_iff, List.mem_map, ← hg, ← hu]
    constructor
    · rintro ⟨x, hx, e⟩
      cases e
      exact uget_mem hk hx
    · intro h
      obtain ⟨b, hb⟩ := uget_some h
      exact ⟨_, hb, rfl⟩
  · have h1 := List.pairwise_mergeSort (le := fun x y => !(ltOf cmpT) y x) (fun a b c h1 h2 => by
      simp only [Bool.not_eq_true', ltF] at h1 h2 ⊢
      exact (ltF _ _).1 (swoT.ntrans _ _ _ ((ltF _ _).2 h2) ((ltF _ _).2 h1))) (fun a b => by
      simp only [Bool.or_eq_true, Bool.not_eq_true', ltF]
      by_cases h : tlt b a
      · refine .inr fun h2 => tlt_irr _ (tlt_trans h h2)
      · exact .inl h) (done.map pr)
    have hnodup : (done.map pr).Nodup := by
      rw [List.Nodup, List.pairwise_map] at hk ⊢
      exact hk.imp fun h e => h (congrArg (·.1) e)
    have h2 := (hp.nodup_iff).2 hnodup
    refine (h1.and h2).imp ?_
    rintro a b ⟨h3, h4⟩
    simp only [Bool.not_eq_true', ltF] at h3
    exact Classical.byContradiction fun h5 => h4 (tlt_tri h5 h3)

theorem sorted_spec {A : ASt} {d : Nat} {D : TM} (h : Holds A d D) (hF : Few D) (hd : d < A.next) : CallW Z Try.prog 29 [.map (some d)] A (Srt D A) := by
  refine CallW.of_code E0_ok E0_ro fn29 rfl (n := 22) rfl (rs := [.tmp 2]) rfl (by simp) (codeW_ok E0_ok E0_ro ?_)
  obtain ⟨es, ck, hes, hok, hg⟩ := h
  have hlen := hF.len hok hg
  simp only [oneW_next, s_0, s_1, s_2, s_3, s_4, Hands, handsV, resultsV, oneOrTuple, argsT, ev, evs, evPairs, evOpt, closed, flat, nth, aCall, aEnter, notYield, aNilCheck, aLoad, partV, isAggD, aFieldAddr, aField, aExtract, Option.isNone, aBuiltin, cond_true, cond_false, cond_dec, if_true, if_false, List.length_cons, List.length_nil, forall_const, implies_true, List.append_nil, List.cons_append, List.nil_append, eq_self, Nat.reduceEqDiff, Nat.reduceAdd, Nat.reduceMul, Nat.reduceSub, Nat.reduceLT, Nat.reduceLeDiff, Nat.reduceBEq, reduceIte, reduceCtorEq, ti63, t63_desc, t63_size, ti25, t25_desc, ti22, t22_desc, t22_size, ti59, t59_desc, t59_size, ti60, t60_desc, t60_size, ti61, t61_desc, t61_size, ti3, t3_desc, t3_size, ti40, t40_desc, t40_size, ti33, t33_desc, t33_size, ti9, t9_desc, t9_size, wrow_now, wrow_all, eqnil25, fn17, fn26, fn27, fn28, fn29, fn38, fn39, fn12, fn14, fn15, rangeT hes]
  refine CodeW.mono (Q := fun o => ∃ T' A' done, o = .fr ⟨.exit 0, T', A'⟩ ∧ (∀ x ∈ done, x ∈ es) ∧ (∀ x ∈ es, x ∈ done) ∧ done.Nodup ∧ OutS A T' A' done) ?_ ?_
  · refine CodeW.mapLoop (it := 7) (r := A.next) (m := d) (ck := ck) (l := es) (J := fun done T A' => OutS A T A' done) ?_ ?_ ?_
    · rintro done T A1 hi ⟨f1, nx1, hout⟩
      refine codeW_ok E0_ok E0_ro ?_
      have hit := hi.it
      simp only [oneW_next, s_0, s_1, s_2, s_3, s_4, Hands, handsV, resultsV, oneOrTuple, argsT, ev, evs, evPairs, evOpt, closed, flat, nth, aCall, aEnter, notYield, aNilCheck, aLoad, partV, isAggD, aFieldAddr, aField, aExtract, Option.isNone, aBuiltin, cond_true, cond_false, cond_dec, if_true, if_false, List.length_cons, List.length_nil, forall_const, implies_true, List.append_nil, List.cons_append, List.nil_append, eq_self, Nat.reduceEqDiff, Nat.reduceAdd, Nat.reduceMul, Nat.reduceSub, Nat.reduceLT, Nat.reduceLeDiff, Nat.reduceBEq, reduceIte, reduceCtorEq, ti63, t63_desc, t63_size, ti25, t25_desc, ti22, t22_desc, t22_size, ti59, t59_desc, t59_size, ti60, t60_desc, t60_size, ti61, t61_desc, t61_size, ti3, t3_desc, t3_size, ti40, t40_desc, t40_size, ti33, t33_desc, t33_size, ti9, t9_desc, t9_size, wrow_now, wrow_all, eqnil25, fn17, fn26, fn27, fn28, fn29, fn38, fn39, fn12, fn14, fn15, hit]
      refine nextV_u hok hi.sub hi.iter hi.map (fun x hx hn => ?_) (fun hfin => ?_)
      · have hent := entry_u (A := A1.set A.next (.miter (some d) ck ((done ++ [x]).map (·.2.2)) ck)) (r := A.next) (m := d) hok hx (by rw [ASt.get_set, if_pos rfl]) (by rw [ASt.get_set, if_neg (by omega)]; exact hi.map)
        have hB : ∀ b, (A1.set A.next (.miter (some d) ck ((done ++ [x]).map (·.2.2)) ck)).get b = if b = A.next then some (.miter (some d) ck ((done ++ [x]).map (·.2.2)) ck) else A1.get b := fun b => by rw [ASt.get_set]
        have hBn : (A1.set A.next (.miter (some d) ck ((done ++ [x]).map (·.2.2)) ck)).next = A1.next := rfl
        generalize A1.set A.next (.miter (some d) ck ((done ++ [x]).map (·.2.2)) ck) = B at hent hB hBn ⊢
        have hdl : done.length ≤ 1000 := Nat.le_trans (nodup_le hi.nodup hi.sub) hlen
        have hxr : (B.new (.row [.string x.1, .int .u64 (x.2.1 : Nat)] 2 false)).get B.next = some (.row [.string x.1, .int .u64 (x.2.1 : Nat)] 2 false) := by rw [ASt.get_new, if_pos rfl]
        rcases hout with ⟨rfl, u3⟩ | ⟨hne, b, u3, hb, hb1, hb2⟩
        · have hap := app_nil hxr
          simp only [oneW_next, s_0, s_1, s_2, s_3, s_4, Hands, handsV, resultsV, oneOrTuple, argsT, ev, evs, evPairs, evOpt, closed, flat, nth, aCall, aEnter, notYield, aNilCheck, aLoad, partV, isAggD, aFieldAddr, aField, aExtract, Option.isNone, aBuiltin, cond_true, cond_false, cond_dec, if_true, if_false, List.length_cons, List.length_nil, forall_const, implies_true, List.append_nil, List.cons_append, List.nil_append, eq_self, Nat.reduceEqDiff, Nat.reduceAdd, Nat.reduceMul, Nat.reduceSub, Nat.reduceLT, Nat.reduceLeDiff, Nat.reduceBEq, reduceIte, reduceCtorEq, ti63, t63_desc, t63_size, ti25, t25_desc, ti22, t22_desc, t22_size, ti59, t59_desc, t59_size, ti60, t60_desc, t60_size, ti61, t61_desc, t61_size, ti3, t3_desc, t3_size, ti40, t40_desc, t40_size, ti33, t33_desc, t33_size, ti9, t9_desc, t9_size, wrow_now, wrow_all, eqnil25, fn17, fn26, fn27, fn28, fn29, fn38, fn39, fn12, fn14, fn15, hit, hent, u3, build33, bs30, hap]
          have hS : ∀ c, c < B.next → ((B.new (.row [.string x.1, .int .u64 (x.2.1 : Nat)] 2 false)).new (.row [.string x.1, .int .u64 (x.2.1 : Nat)] 2 true)).get c = B.get c := fun c hc => by
            rw [ASt.get_new, if_neg (by rw [ASt.next_new]; omega), ASt.get_new, if_neg (by omega)]
          refine ⟨x, hx, hn, hi.step hx hn (by simp only [tget_put, Nat.reduceEqDiff, if_false, reduceIte]) ?_ ?_, ⟨?_, fun c hc hn => ?_⟩, ?_, .inr ⟨by simp, B.next + 1, ?_, ?_, ?_, ?_⟩⟩
          · rw [hS _ (by omega), hB, if_pos rfl]
          · rw [hS _ (by omega), hB, if_neg (by omega)]
          · have := f1.next; simp only [ASt.next_new]; omega
          · have := f1.next; rw [hS _ (by omega), hB, if_neg (by omega)]; exact f1.get c hc hn
          · simp only [ASt.next_new]; omega
          · simp only [tget_put, Nat.reduceEqDiff, if_false, if_true, reduceIte]; rfl
          · rw [ASt.get_new, if_pos (by rw [ASt.next_new])]; rfl
          · omega
          · simp only [ASt.next_new]; omega
        · have hb1' : (B.new (.row [.string x.1, .int .u64 (x.2.1 : Nat)] 2 false)).get b = some (.row (tcells (done.map pr)) 2 true) := by
            rw [ASt.get_new, if_neg (by omega), hB, if_neg (by omega)]; exact hb
          have hap := app_row hxr hb1' (by rw [tcells_len, List.length_map]) (by omega)
          simp only [oneW_next, s_0, s_1, s_2, s_3, s_4, Hands, handsV, resultsV, oneOrTuple, argsT, ev, evs, evPairs, evOpt, closed, flat, nth, aCall, aEnter, notYield, aNilCheck, aLoad, partV, isAggD, aFieldAddr, aField, aExtract, Option.isNone, aBuiltin, cond_true, cond_false, cond_dec, if_true, if_false, List.length_cons, List.length_nil, forall_const, implies_true, List.append_nil, List.cons_append, List.nil_append, eq_self, Nat.reduceEqDiff, Nat.reduceAdd, Nat.reduceMul, Nat.reduceSub, Nat.reduceLT, Nat.reduceLeDiff, Nat.reduceBEq, reduceIte, reduceCtorEq, ti63, t63_desc, t63_size, ti25, t25_desc, ti22, t22_desc, t22_size, ti59, t59_desc, t59_size, ti60, t60_desc, t60_size, ti61, t61_desc, t61_size, ti3, t3_desc, t3_size, ti40, t40_desc, t40_size, ti33, t33_desc, t33_size, ti9, t9_desc, t9_size, wrow_now, wrow_all, eqnil25, fn17, fn26, fn27, fn28, fn29, fn38, fn39, fn12, fn14, fn15, hit, hent, u3, build33, bs30, hap]
          have hS : ∀ c, c < B.next → c ≠ b → (((B.new (.row [.string x.1, .int .u64 (x.2.1 : Nat)] 2 false)).set b (.row [] 2 false)).new (.row (tcells (done.map pr) ++ [.string x.1, .int .u64 (x.2.1 : Nat)]) 2 true)).get c = B.get c := fun c hc hcb => by
            rw [ASt.get_new, if_neg (by rw [ASt.next_set, ASt.next_new]; omega), ASt.get_set, if_neg hcb, ASt.get_new, if_neg (by omega)]
          refine ⟨x, hx, hn, hi.step hx hn (by simp only [tget_put, Nat.reduceEqDiff, if_false, reduceIte]) ?_ ?_, ⟨?_, fun c hc hn => ?_⟩, ?_, .inr ⟨by simp, B.next + 1, ?_, ?_, ?_, ?_⟩⟩
          · rw [hS _ (by omega) (by omega), hB, if_pos rfl]
          · rw [hS _ (by omega) (by omega), hB, if_neg (by omega)]
          · have := f1.next; simp only [ASt.next_new, ASt.next_set]; omega
          · have := f1.next; rw [hS _ (by omega) (by omega), hB, if_neg (by omega)]; exact f1.get c hc hn
          · simp only [ASt.next_new, ASt.next_set]; omega
          · simp only [tget_put, Nat.reduceEqDiff, if_false, if_true, reduceIte, List.length_append, List.length_cons, List.length_nil]
          · rw [ASt.get_new, if_pos (by rw [ASt.next_set, ASt.next_new]), List.map_append, List.map_cons, List.map_nil, tcells_snoc]; rfl
          · omega
          · simp only [ASt.next_new, ASt.next_set]; omega
      · simp only [oneW_next, s_0, s_1, s_2, s_3, s_4, Hands, handsV, resultsV, oneOrTuple, argsT, ev, evs, evPairs, evOpt, closed, flat, nth, aCall, aEnter, notYield, aNilCheck, aLoad, partV, isAggD, aFieldAddr, aField, aExtract, Option.isNone, aBuiltin, cond_true, cond_false, cond_dec, if_true, if_false, List.length_cons, List.length_nil, forall_const, implies_true, List.append_nil, List.cons_append, List.nil_append, eq_self, Nat.reduceEqDiff, Nat.reduceAdd, Nat.reduceMul, Nat.reduceSub, Nat.reduceLT, Nat.reduceLeDiff, Nat.reduceBEq, reduceIte, reduceCtorEq, ti63, t63_desc, t63_size, ti25, t25_desc, ti22, t22_desc, t22_size, ti59, t59_desc, t59_size, ti60, t60_desc, t60_size, ti61, t61_desc, t61_size, ti3, t3_desc, t3_size, ti40, t40_desc, t40_size, ti33, t33_desc, t33_size, ti9, t9_desc, t9_size, wrow_now, wrow_all, eqnil25, fn17, fn26, fn27, fn28, fn29, fn38, fn39, fn12, fn14, fn15]
        refine ⟨_, _, done, rfl, hi.sub, hfin, hi.nodup, f1, nx1, ?_⟩
        simpa only [tget_put, Nat.reduceEqDiff, if_false, reduceIte] using hout
    · refine ⟨by simp only [tget_put, Nat.reduceEqDiff, if_false, if_true, reduceIte], by rw [ASt.get_new, if_pos rfl]; rfl, by rw [ASt.get_new, if_neg (by omega)]; exact hes, by simp, .nil⟩
    · refine ⟨⟨Nat.le_succ _, fun b hb hn => by rw [ASt.get_new, if_neg (by omega)]⟩, Nat.lt_succ_self _, .inl ⟨rfl, ?_⟩⟩
      simp only [tget_put, Nat.reduceEqDiff, if_false, if_true, reduceIte]
  · rintro o ⟨T', A', done, rfl, hsub, hall, hnd, f1, nx1, hout⟩
    have hL := sorted_list hok hg hsub hall hnd
    rcases hout with ⟨rfl, u3⟩ | ⟨hne, b, u3, hb, hb1, hb2⟩
    · simp only [oneW_next, s_0, s_1, s_2, s_3, s_4, Hands, handsV, resultsV, oneOrTuple, argsT, ev, evs, evPairs, evOpt, closed, flat, nth, aCall, aEnter, notYield, aNilCheck, aLoad, partV, isAggD, aFieldAddr, aField, aExtract, Option.isNone, aBuiltin, cond_true, cond_false, cond_dec, if_true, if_false, List.length_cons, List.length_nil, forall_const, implies_true, List.append_nil, List.cons_append, List.nil_append, eq_self, Nat.reduceEqDiff, Nat.reduceAdd, Nat.reduceMul, Nat.reduceSub, Nat.reduceLT, Nat.reduceLeDiff, Nat.reduceBEq, reduceIte, reduceCtorEq, ti63, t63_desc, t63_size, ti25, t25_desc, ti22, t22_desc, t22_size, ti59, t59_desc, t59_size, ti60, t60_desc, t60_size, ti61, t61_desc, t61_size, ti3, t3_desc, t3_size, ti40, t40_desc, t40_size, ti33, t33_desc, t33_size, ti9, t9_desc, t9_size, wrow_now, wrow_all, eqnil25, fn17, fn26, fn27, fn28, fn29, fn38, fn39, fn12, fn14, fn15, u3]
      refine CallT.mono sort_none ?_
      rintro v B rfl
      simp only [oneW_next, s_0, s_1, s_2, s_3, s_4, Hands, handsV, resultsV, oneOrTuple, argsT, ev, evs, evPairs, evOpt, closed, flat, nth, aCall, aEnter, notYield, aNilCheck, aLoad, partV, isAggD, aFieldAddr, aField, aExtract, Option.isNone, aBuiltin, cond_true, cond_false, cond_dec, if_true, if_false, List.length_cons, List.length_nil, forall_const, implies_true, List.append_nil, List.cons_append, List.nil_append, eq_self, Nat.reduceEqDiff, Nat.reduceAdd, Nat.reduceMul, Nat.reduceSub, Nat.reduceLT, Nat.reduceLeDiff, Nat.reduceBEq, reduceIte, reduceCtorEq, ti63, t63_desc, t63_size, ti25, t25_desc, ti22, t22_desc, t22_size, ti59, t59_desc, t59_size, ti60, t60_desc, t60_size, ti61, t61_desc, t61_size, ti3, t3_desc, t3_size, ti40, t40_desc, t40_size, ti33, t33_desc, t33_size, ti9, t9_desc, t9_size, wrow_now, wrow_all, eqnil25, fn17, fn26, fn27, fn28, fn29, fn38, fn39, fn12, fn14, fn15, u3]
      exact ⟨_, hL, .inl ⟨by simp, rfl⟩, f1⟩
    · simp only [oneW_next, s_0, s_1, s_2, s_3, s_4, Hands, handsV, resultsV, oneOrTuple, argsT, ev, evs, evPairs, evOpt, closed, flat, nth, aCall, aEnter, notYield, aNilCheck, aLoad, partV, isAggD, aFieldAddr, aField, aExtract, Option.isNone, aBuiltin, cond_true, cond_false, cond_dec, if_true, if_false, List.length_cons, List.length_nil, forall_const, implies_true, List.append_nil, List.cons_append, List.nil_append, eq_self, Nat.reduceEqDiff, Nat.reduceAdd, Nat.reduceMul, Nat.reduceSub, Nat.reduceLT, Nat.reduceLeDiff, Nat.reduceBEq, reduceIte, reduceCtorEq, ti63, t63_desc, t63_size, ti25, t25_desc, ti22, t22_desc, t22_size, ti59, t59_desc, t59_size, ti60, t60_desc, t60_size, ti61, t61_desc, t61_size, ti3, t3_desc, t3_size, ti40, t40_desc, t40_size, ti33, t33_desc, t33_size, ti9, t9_desc, t9_size, wrow_now, wrow_all, eqnil25, fn17, fn26, fn27, fn28, fn29, fn38, fn39, fn12, fn14, fn15, u3]
      have hb' : A'.get b = some (.row (tcells (done.map pr) ++ []) 2 true) := by rw [List.append_nil]; exact hb
      have hdl : done.length ≤ 1000 := Nat.le_trans (nodup_le hnd hsub) hlen
      have hs := sort_spec (Z := Z) (cap := unk) hb' (by simpa using hne) (by simp; omega)
      rw [List.length_map] at hs
      refine CallT.mono hs ?_
      rintro v B rfl
      simp only [oneW_next, s_0, s_1, s_2, s_3, s_4, Hands, handsV, resultsV, oneOrTuple, argsT, ev, evs, evPairs, evOpt, closed, flat, nth, aCall, aEnter, notYield, aNilCheck, aLoad, partV, isAggD, aFieldAddr, aField, aExtract, Option.isNone, aBuiltin, cond_true, cond_false, cond_dec, if_true, if_false, List.length_cons, List.length_nil, forall_const, implies_true, List.append_nil, List.cons_append, List.nil_append, eq_self, Nat.reduceEqDiff, Nat.reduceAdd, Nat.reduceMul, Nat.reduceSub, Nat.reduceLT, Nat.reduceLeDiff, Nat.reduceBEq, reduceIte, reduceCtorEq, ti63, t63_desc, t63_size, ti25, t25_desc, ti22, t22_desc, t22_size, ti59, t59_desc, t59_size, ti60, t60_desc, t60_size, ti61, t61_desc, t61_size, ti3, t3_desc, t3_size, ti40, t40_desc, t40_size, ti33, t33_desc, t33_size, ti9, t9_desc, t9_size, wrow_now, wrow_all, eqnil25, fn17, fn26, fn27, fn28, fn29, fn38, fn39, fn12, fn14, fn15, u3]
      refine ⟨_, hL, .inr ⟨b, unk, [], true, ?_, ?_, by omega, ?_, rfl, rfl, rfl⟩, ⟨f1.next, fun c hc hn => by rw [ASt.get_set, if_neg (by omega)]; exact f1.get c hc hn⟩⟩
      · simp [List.length_mergeSort]
      · rw [ASt.get_set, if_pos rfl]; simp
      · exact hb2
end Go.Proofs.Ytpmpclieclcbdaa

/- The wheel's advance, whole. -/
namespace Go.Proofs.Ytpmpclieclcbdaa
open Go Go.AE Go.Sort

variable {Z : Go.AE.Road}

theorem Few.sub {M D : TM} (h : Few M) (hs : ∀ k a, D k = some a → M k = some a) : Few D := by
  obtain ⟨l, h1, h2⟩ := h
  refine ⟨l, h1, fun k hk => h2 k ?_⟩
  obtain ⟨a, ha⟩ := Option.isSome_iff_exists.1 hk
  rw [hs k a ha]; rfl

theorem advance_spec {A : ASt} {W all now nw : Nat} {ms : List Nat} {M : TM} (h : WheelAt A W all ms now M) (hF : Few M) (hnw : nw < 18446744073709551616) :
    CallW Z Try.prog 13 [.pointer (some ⟨W, 0, none⟩), .int .u64 (nw : Int)] A (fun v A' => if nw < now then v = .slice none 0 0 ∧ WheelAt A' W all ms now M ∧ Fr (W :: all :: ms) A A' else ∃ ts, Lists (fun k => (M k).filter fun a => decide (a ≤ nw)) ts ∧ SliceAt A' A.next v ts ∧ WheelAt A' W all ms nw (fun k => (M k).filter fun a => decide (nw < a)) ∧ Fr (W :: all :: ms) A A') :=
  adv_walk h hnw fun h1 h2 h3 => sorted_spec h1 (hF.sub h2) h3
end Go.Proofs.Ytpmpclieclcbdaa

/- The law's tick: what an act of kind 2 or 5 speaks of. -/
namespace Go.Proofs.Ytpmpclieclcbdaa
open Go Go.AE Go.Sort

variable {Z : Go.AE.Road}
set_option maxRecDepth 10000

def R16 : Tgt → List Value → ASt → (Value → ASt → Prop) → Prop := fun t args A S =>
  (∃ (W now all : Nat) (ms : List Nat), A.get W = some (.row (wrow now all ms) 67 false) ∧ t = .fn 15 ∧ args = [.pointer (some ⟨W, 0, none⟩)] ∧ S = fun v A' => v = .int .u64 (now : Int) ∧ A' = A) ∨
  (∃ n b : Nat, n < 18446744073709551616 ∧ b < 18446744073709551616 ∧ t = .fn 11 ∧ args = [.int .u64 (n : Int), .int .u64 (b : Int)] ∧ S = fun v A' => v = .int .u64 ((lat n b : Nat) : Int) ∧ A' = A)
theorem R16_ok (t args A S) (h : R16 t args A S) : CallT Z Try.prog t args A S := by
  rcases h with ⟨W, now, all, ms, hW, rfl, rfl, rfl⟩ | ⟨n, b, hn, hb, rfl, rfl, rfl⟩
  · exact clock_spec hW
  · exact later_spec hn hb
theorem con15 {W now all : Nat} {ms : List Nat} {A : ASt} {K : Value → ASt → Prop} (hW : A.get W = some (.row (wrow now all ms) 67 false)) (h : K (.int .u64 (now : Int)) A) : conC R16 (.fn 15) [.pointer (some ⟨W, 0, none⟩)] A K := by
  refine ⟨⟨_, .inl ⟨W, now, all, ms, hW, rfl, rfl, rfl⟩⟩, ?_⟩
  rintro S (⟨W', now', all', ms', hW', _, ha, rfl⟩ | ⟨_, _, _, _, ht, _⟩) v A' hv
  · obtain ⟨rfl, rfl⟩ := hv
    simp only [List.cons.injEq, Value.pointer.injEq, Option.some.injEq, Addr.mk.injEq, and_true] at ha
    subst ha
    rw [hW] at hW'
    simp only [Option.some.injEq, AObj.row.injEq, wrow, List.cons.injEq, Value.int.injEq, Int.natCast_inj, true_and, and_true] at hW'
    rw [← hW'.1]
    exact h
  · cases ht
theorem con11 {n b : Nat} (hn : n < 18446744073709551616) (hb : b < 18446744073709551616) {A : ASt} {K : Value → ASt → Prop} (h : K (.int .u64 ((lat n b : Nat) : Int)) A) : conC R16 (.fn 11) [.int .u64 (n : Int), .int .u64 (b : Int)] A K := by
  refine ⟨⟨_, .inr ⟨n, b, hn, hb, rfl, rfl, rfl⟩⟩, ?_⟩
  rintro S (⟨_, _, _, _, _, ht, _⟩ | ⟨n', b', _, _, _, ha, rfl⟩) v A' hv
  · cases ht
  · obtain ⟨rfl, rfl⟩ := hv
    simp only [List.cons.injEq, Value.int.injEq, Int.natCast_inj, and_true, true_and] at ha
    obtain ⟨rfl, rfl⟩ := ha
    exact h

theorem box40 {k a b c : Value} : aBox E0 40 (.agg #[k, a, b, c]) = some (.row [k, a, b, c] 4 false, ptrTo) := by
  simp only [aBox, ti40, t40_size]; rfl
/-- An act's cells. -/
def actV (k : Int) (name : ByteArray) (a b : Nat) : Value := .agg #[.int .i64 k, .string name, .int .u64 (a : Int), .int .u64 (b : Int)]

theorem tick_by {A : ASt} {W now all a b : Nat} {ms : List Nat} {k : Int} {name : ByteArray} (hW : A.get W = some (.row (wrow now all ms) 67 false)) (hWb : W < A.next) (hn : now < 18446744073709551616) (hb : b < 18446744073709551616) (hk : k = 2 ∨ k = 5) :
    CallW Z Try.prog 16 [actV k name a b, .pointer (some ⟨W, 0, none⟩)] A (fun v A' => v = .int .u64 ((lat now b : Nat) : Int) ∧ Fr [] A A') := by
  refine CallW.of_code E0_ok E0_ro fn16 rfl (n := 34) rfl (rs := [.tmp 4]) rfl (by simp) (codeW_ok E0_ok E0_ro ?_)
  unfold actV
  simp only [oneW_next, s_0, s_1, s_2, s_3, s_4, Hands, handsV, resultsV, oneOrTuple, argsT, ev, evs, evPairs, evOpt, closed, flat, nth, aCall, aEnter, notYield, aNilCheck, aLoad, partV, isAggD, aFieldAddr, aField, aExtract, Option.isNone, aBuiltin, cond_true, cond_false, cond_dec, if_true, if_false, List.length_cons, List.length_nil, forall_const, implies_true, List.append_nil, List.cons_append, List.nil_append, eq_self, Nat.reduceEqDiff, Nat.reduceAdd, Nat.reduceMul, Nat.reduceSub, Nat.reduceLT, Nat.reduceLeDiff, Nat.reduceBEq, reduceIte, reduceCtorEq, ti63, t63_desc, t63_size, ti25, t25_desc, ti22, t22_desc, t22_size, ti59, t59_desc, t59_size, ti60, t60_desc, t60_size, ti61, t61_desc, t61_size, ti3, t3_desc, t3_size, ti40, t40_desc, t40_size, ti33, t33_desc, t33_size, ti9, t9_desc, t9_size, wrow_now, wrow_all, eqnil25, fn17, fn26, fn27, fn28, fn29, fn38, fn39, fn12, fn14, fn15, box40, ptrTo]
  generalize hCd : ASt.new A _ = C
  have c1 : C.get A.next = some (.row [.int .i64 k, .string name, .int .u64 (a : Int), .int .u64 (b : Int)] 4 false) := by rw [← hCd, ASt.get_new, if_pos rfl]
  have hC : ∀ c, c < A.next → C.get c = A.get c := fun c hc => by rw [← hCd, ASt.get_new, if_neg (by omega)]
  have hCn : C.next = A.next + 1 := by rw [← hCd]; simp only [ASt.next_new]
  have cW : C.get W = some (.row (wrow now all ms) 67 false) := (hC W hWb).trans hW
  clear hCd
  have fC : ∀ n, Fr [] A { heap := C.heap, next := C.next + n } := fun n => ⟨by show A.next ≤ C.next + n; omega, fun c hc _ => hC c hc⟩
  rcases hk with rfl | rfl
  · simp only [oneW_next, s_0, s_1, s_2, s_3, s_4, Hands, handsV, resultsV, oneOrTuple, argsT, ev, evs, evPairs, evOpt, closed, flat, nth, aCall, aEnter, notYield, aNilCheck, aLoad, partV, isAggD, aFieldAddr, aField, aExtract, Option.isNone, aBuiltin, cond_true, cond_false, cond_dec, if_true, if_false, List.length_cons, List.length_nil, forall_const, implies_true, List.append_nil, List.cons_append, List.nil_append, eq_self, Nat.reduceEqDiff, Nat.reduceAdd, Nat.reduceMul, Nat.reduceSub, Nat.reduceLT, Nat.reduceLeDiff, Nat.reduceBEq, reduceIte, reduceCtorEq, ti63, t63_desc, t63_size, ti25, t25_desc, ti22, t22_desc, t22_size, ti59, t59_desc, t59_size, ti60, t60_desc, t60_size, ti61, t61_desc, t61_size, ti3, t3_desc, t3_size, ti40, t40_desc, t40_size, ti33, t33_desc, t33_size, ti9, t9_desc, t9_size, wrow_now, wrow_all, eqnil25, fn17, fn26, fn27, fn28, fn29, fn38, fn39, fn12, fn14, fn15, c1, Int.reduceEq]
    refine CodeW.seqd E0_ok E0_ro mixed R16_ok [0, 2, 3, 1, 4, 5] [1, 2] (by simp only [reorder, reoGo, strip, List.map_cons, List.map_nil, opAt, remap, nth, Option.map, σ, place', nbeq, List.length_cons, List.length_nil, Nat.reduceAdd, Nat.reduceLT, Nat.reduceEqDiff, if_true, if_false, reduceIte]; rfl) (by decide +kernel) (by kernel_rfl) (by kernel_rfl) (by kernel_rfl) ?_
    simp only [oneW_next, s_0, s_1, s_2, s_3, s_4, Hands, handsV, resultsV, oneOrTuple, argsT, ev, evs, evPairs, evOpt, closed, flat, nth, aCall, aEnter, notYield, aNilCheck, aLoad, partV, isAggD, aFieldAddr, aField, aExtract, Option.isNone, aBuiltin, cond_true, cond_false, cond_dec, if_true, if_false, List.length_cons, List.length_nil, forall_const, implies_true, List.append_nil, List.cons_append, List.nil_append, eq_self, Nat.reduceEqDiff, Nat.reduceAdd, Nat.reduceMul, Nat.reduceSub, Nat.reduceLT, Nat.reduceLeDiff, Nat.reduceBEq, reduceIte, reduceCtorEq, ti63, t63_desc, t63_size, ti25, t25_desc, ti22, t22_desc, t22_size, ti59, t59_desc, t59_size, ti60, t60_desc, t60_size, ti61, t61_desc, t61_size, ti3, t3_desc, t3_size, ti40, t40_desc, t40_size, ti33, t33_desc, t33_size, ti9, t9_desc, t9_size, wrow_now, wrow_all, eqnil25, fn17, fn26, fn27, fn28, fn29, fn38, fn39, fn12, fn14, fn15, q_0, q_1, q_2, f_0, pendW, hasN, reorder, E0_ron, exists_eq', List.length_cons, List.length_nil, c1, cW]
    refine con15 (by rw [get_next]; exact cW) ?_
    simp only [oneW_next, s_0, s_1, s_2, s_3, s_4, Hands, handsV, resultsV, oneOrTuple, argsT, ev, evs, evPairs, evOpt, closed, flat, nth, aCall, aEnter, notYield, aNilCheck, aLoad, partV, isAggD, aFieldAddr, aField, aExtract, Option.isNone, aBuiltin, cond_true, cond_false, cond_dec, if_true, if_false, List.length_cons, List.length_nil, forall_const, implies_true, List.append_nil, List.cons_append, List.nil_append, eq_self, Nat.reduceEqDiff, Nat.reduceAdd, Nat.reduceMul, Nat.reduceSub, Nat.reduceLT, Nat.reduceLeDiff, Nat.reduceBEq, reduceIte, reduceCtorEq, ti63, t63_desc, t63_size, ti25, t25_desc, ti22, t22_desc, t22_size, ti59, t59_desc, t59_size, ti60, t60_desc, t60_size, ti61, t61_desc, t61_size, ti3, t3_desc, t3_size, ti40, t40_desc, t40_size, ti33, t33_desc, t33_size, ti9, t9_desc, t9_size, wrow_now, wrow_all, eqnil25, fn17, fn26, fn27, fn28, fn29, fn38, fn39, fn12, fn14, fn15, q_0, q_1, q_2, f_0, pendW, hasN, reorder, E0_ron, exists_eq', List.length_cons, List.length_nil, c1, cW]
    refine con11 hn hb ?_
    simp only [oneW_next, s_0, s_1, s_2, s_3, s_4, Hands, handsV, resultsV, oneOrTuple, argsT, ev, evs, evPairs, evOpt, closed, flat, nth, aCall, aEnter, notYield, aNilCheck, aLoad, partV, isAggD, aFieldAddr, aField, aExtract, Option.isNone, aBuiltin, cond_true, cond_false, cond_dec, if_true, if_false, List.length_cons, List.length_nil, forall_const, implies_true, List.append_nil, List.cons_append, List.nil_append, eq_self, Nat.reduceEqDiff, Nat.reduceAdd, Nat.reduceMul, Nat.reduceSub, Nat.reduceLT, Nat.reduceLeDiff, Nat.reduceBEq, reduceIte, reduceCtorEq, ti63, t63_desc, t63_size, ti25, t25_desc, ti22, t22_desc, t22_size, ti59, t59_desc, t59_size, ti60, t60_desc, t60_size, ti61, t61_desc, t61_size, ti3, t3_desc, t3_size, ti40, t40_desc, t40_size, ti33, t33_desc, t33_size, ti9, t9_desc, t9_size, wrow_now, wrow_all, eqnil25, fn17, fn26, fn27, fn28, fn29, fn38, fn39, fn12, fn14, fn15, q_0, q_1, q_2, f_0, pendW, hasN, reorder, E0_ron, exists_eq', List.length_cons, List.length_nil, c1, cW]
    exact fC _
  · simp only [oneW_next, s_0, s_1, s_2, s_3, s_4, Hands, handsV, resultsV, oneOrTuple, argsT, ev, evs, evPairs, evOpt, closed, flat, nth, aCall, aEnter, notYield, aNilCheck, aLoad, partV, isAggD, aFieldAddr, aField, aExtract, Option.isNone, aBuiltin, cond_true, cond_false, cond_dec, if_true, if_false, List.length_cons, List.length_nil, forall_const, implies_true, List.append_nil, List.cons_append, List.nil_append, eq_self, Nat.reduceEqDiff, Nat.reduceAdd, Nat.reduceMul, Nat.reduceSub, Nat.reduceLT, Nat.reduceLeDiff, Nat.reduceBEq, reduceIte, reduceCtorEq, ti63, t63_desc, t63_size, ti25, t25_desc, ti22, t22_desc, t22_size, ti59, t59_desc, t59_size, ti60, t60_desc, t60_size, ti61, t61_desc, t61_size, ti3, t3_desc, t3_size, ti40, t40_desc, t40_size, ti33, t33_desc, t33_size, ti9, t9_desc, t9_size, wrow_now, wrow_all, eqnil25, fn17, fn26, fn27, fn28, fn29, fn38, fn39, fn12, fn14, fn15, c1, Int.reduceEq]
    refine CodeW.seqd E0_ok E0_ro mixed R16_ok [0, 2, 3, 1, 4, 5] [1, 2] (by simp only [reorder, reoGo, strip, List.map_cons, List.map_nil, opAt, remap, nth, Option.map, σ, place', nbeq, List.length_cons, List.length_nil, Nat.reduceAdd, Nat.reduceLT, Nat.reduceEqDiff, if_true, if_false, reduceIte]; rfl) (by decide +kernel) (by kernel_rfl) (by kernel_rfl) (by kernel_rfl) ?_
    simp only [oneW_next, s_0, s_1, s_2, s_3, s_4, Hands, handsV, resultsV, oneOrTuple, argsT, ev, evs, evPairs, evOpt, closed, flat, nth, aCall, aEnter, notYield, aNilCheck, aLoad, partV, isAggD, aFieldAddr, aField, aExtract, Option.isNone, aBuiltin, cond_true, cond_false, cond_dec, if_true, if_false, List.length_cons, List.length_nil, forall_const, implies_true, List.append_nil, List.cons_append, List.nil_append, eq_self, Nat.reduceEqDiff, Nat.reduceAdd, Nat.reduceMul, Nat.reduceSub, Nat.reduceLT, Nat.reduceLeDiff, Nat.reduceBEq, reduceIte, reduceCtorEq, ti63, t63_desc, t63_size, ti25, t25_desc, ti22, t22_desc, t22_size, ti59, t59_desc, t59_size, ti60, t60_desc, t60_size, ti61, t61_desc, t61_size, ti3, t3_desc, t3_size, ti40, t40_desc, t40_size, ti33, t33_desc, t33_size, ti9, t9_desc, t9_size, wrow_now, wrow_all, eqnil25, fn17, fn26, fn27, fn28, fn29, fn38, fn39, fn12, fn14, fn15, q_0, q_1, q_2, f_0, pendW, hasN, reorder, E0_ron, exists_eq', List.length_cons, List.length_nil, c1, cW]
    refine con15 (by rw [get_next]; exact cW) ?_
    simp only [oneW_next, s_0, s_1, s_2, s_3, s_4, Hands, handsV, resultsV, oneOrTuple, argsT, ev, evs, evPairs, evOpt, closed, flat, nth, aCall, aEnter, notYield, aNilCheck, aLoad, partV, isAggD, aFieldAddr, aField, aExtract, Option.isNone, aBuiltin, cond_true, cond_false, cond_dec, if_true, if_false, List.length_cons, List.length_nil, forall_const, implies_true, List.append_nil, List.cons_append, List.nil_append, eq_self, Nat.reduceEqDiff, Nat.reduceAdd, Nat.reduceMul, Nat.reduceSub, Nat.reduceLT, Nat.reduceLeDiff, Nat.reduceBEq, reduceIte, reduceCtorEq, ti63, t63_desc, t63_size, ti25, t25_desc, ti22, t22_desc, t22_size, ti59, t59_desc, t59_size, ti60, t60_desc, t60_size, ti61, t61_desc, t61_size, ti3, t3_desc, t3_size, ti40, t40_desc, t40_size, ti33, t33_desc, t33_size, ti9, t9_desc, t9_size, wrow_now, wrow_all, eqnil25, fn17, fn26, fn27, fn28, fn29, fn38, fn39, fn12, fn14, fn15, q_0, q_1, q_2, f_0, pendW, hasN, reorder, E0_ron, exists_eq', List.length_cons, List.length_nil, c1, cW]
    refine con11 hn hb ?_
    simp only [oneW_next, s_0, s_1, s_2, s_3, s_4, Hands, handsV, resultsV, oneOrTuple, argsT, ev, evs, evPairs, evOpt, closed, flat, nth, aCall, aEnter, notYield, aNilCheck, aLoad, partV, isAggD, aFieldAddr, aField, aExtract, Option.isNone, aBuiltin, cond_true, cond_false, cond_dec, if_true, if_false, List.length_cons, List.length_nil, forall_const, implies_true, List.append_nil, List.cons_append, List.nil_append, eq_self, Nat.reduceEqDiff, Nat.reduceAdd, Nat.reduceMul, Nat.reduceSub, Nat.reduceLT, Nat.reduceLeDiff, Nat.reduceBEq, reduceIte, reduceCtorEq, ti63, t63_desc, t63_size, ti25, t25_desc, ti22, t22_desc, t22_size, ti59, t59_desc, t59_size, ti60, t60_desc, t60_size, ti61, t61_desc, t61_size, ti3, t3_desc, t3_size, ti40, t40_desc, t40_size, ti33, t33_desc, t33_size, ti9, t9_desc, t9_size, wrow_now, wrow_all, eqnil25, fn17, fn26, fn27, fn28, fn29, fn38, fn39, fn12, fn14, fn15, q_0, q_1, q_2, f_0, pendW, hasN, reorder, E0_ron, exists_eq', List.length_cons, List.length_nil, c1, cW]
    exact fC _
end Go.Proofs.Ytpmpclieclcbdaa

/- Contracts in drawn regions of the laws; acts in a slice. -/
namespace Go.Proofs.Ytpmpclieclcbdaa
open Go Go.AE Go.Sort

variable {Z : Go.AE.Road}
set_option maxRecDepth 10000

theorem WheelAt.uniq {A : ASt} {W all now all' now' : Nat} {ms ms' : List Nat} {M M' : TM} (h : WheelAt A W all ms now M) (h' : WheelAt A W all' ms' now' M') : all = all' ∧ ms = ms' ∧ now = now' ∧ M = M' := by
  have e := h.row.symm.trans h'.row
  simp only [Option.some.injEq, AObj.row.injEq, wrow, List.cons.injEq, Value.int.injEq, Int.natCast_inj, Value.map.injEq, true_and, and_true] at e
  obtain ⟨e1, e2, e3⟩ := e
  subst e1 e2
  refine ⟨rfl, ?_, rfl, ?_⟩
  · have hinj : ∀ {l l' : List Nat}, l.map (fun i => Value.map (some i)) = l'.map (fun i => Value.map (some i)) → l = l' := by
      intro l
      induction l with
      | nil => intro l' h; cases l' with | nil => rfl | cons _ _ => cases h
      | cons a l ih =>
        intro l' h
        cases l' with
        | nil => cases h
        | cons b l' =>
          simp only [List.map_cons, List.cons.injEq, Value.map.injEq, Option.some.injEq] at h
          rw [h.1, ih h.2]
    exact hinj e3
  · obtain ⟨l, ck, h1, h2, h3⟩ := h.allm
    obtain ⟨l', ck', h1', h2', h3'⟩ := h'.allm
    rw [h1] at h1'
    have hu : ∀ k, uget l k = uget l' k := by
      simp only [Option.some.injEq, AObj.map.injEq] at h1'
      have hinj : ∀ {l l' : List UE}, uEnts l = uEnts l' → l = l' := by
        intro l
        induction l with
        | nil => intro l' h; cases l' with | nil => rfl | cons _ _ => cases h
        | cons a l ih =>
          intro l' h
          cases l' with
          | nil => cases h
          | cons b l' =>
            simp only [uEnts, List.map_cons, List.cons.injEq, ue, MapEntry.mk.injEq, Value.string.injEq, Value.int.injEq, Int.natCast_inj, true_and] at h
            obtain ⟨⟨e1, e2, e3⟩, e4⟩ := h
            obtain ⟨a1, a2, a3⟩ := a
            obtain ⟨b1, b2, b3⟩ := b
            simp only at e1 e2 e3
            subst e1 e2 e3
            rw [ih e4]
      rw [hinj h1'.1]
      exact fun _ => rfl
    funext k
    rw [← h3, ← h3', hu]

/-- The contracts that the law's scripts call. -/
def R8 : Tgt → List Value → ASt → (Value → ASt → Prop) → Prop := fun t args A S =>
  (∃ (W now all a b : Nat) (ms : List Nat) (M : TM) (k : Int) (name : ByteArray), WheelAt A W all ms now M ∧ b < 18446744073709551616 ∧ (k = 2 ∨ k = 5) ∧ t = .fn 16 ∧ args = [actV k name a b, .pointer (some ⟨W, 0, none⟩)] ∧ S = fun v A' => v = .int .u64 ((lat now b : Nat) : Int) ∧ Fr [] A A') ∨
  (∃ (W now all a : Nat) (ms : List Nat) (M : TM) (name : ByteArray), WheelAt A W all ms now M ∧ a < 18446744073709551616 ∧ t = .fn 12 ∧ args = [.pointer (some ⟨W, 0, none⟩), .string name, .int .u64 (a : Int)] ∧ S = fun v A' => v = .bool (decide (now < a)) ∧ WheelAt A' W all ms now (if now < a then M.put name a else M) ∧ Fr (W :: all :: ms) A A')
theorem R8_ok (t args A S) (h : R8 t args A S) : CallT Z Try.prog t args A S := by
  rcases h with ⟨W, now, all, a, b, ms, M, k, name, hw, hb, hk, rfl, rfl, rfl⟩ | ⟨W, now, all, a, ms, M, name, hw, ha, rfl, rfl, rfl⟩
  · exact tick_by hw.row (hw.below W (by simp)) hw.nowlt hb hk
  · exact put_spec hw name ha
theorem con16 {A : ASt} {W now all a b : Nat} {ms : List Nat} {M : TM} {k : Int} {name : ByteArray} (hw : WheelAt A W all ms now M) (hb : b < 18446744073709551616) (hk : k = 2 ∨ k = 5) {K : Value → ASt → Prop} (h : ∀ A', Fr [] A A' → K (.int .u64 ((lat now b : Nat) : Int)) A') : conC R8 (.fn 16) [actV k name a b, .pointer (some ⟨W, 0, none⟩)] A K := by
  refine ⟨⟨_, .inl ⟨W, now, all, a, b, ms, M, k, name, hw, hb, hk, rfl, rfl, rfl⟩⟩, ?_⟩
  rintro S (⟨W', now', all', a', b', ms', M', k', name', hw', _, _, _, ha, rfl⟩ | ⟨_, _, _, _, _, _, _, _, _, ht, _⟩) v A' hv
  · obtain ⟨rfl, hf⟩ := hv
    simp only [actV, List.cons.injEq, Value.agg.injEq, Array.mk.injEq, Value.int.injEq, Int.natCast_inj, Value.pointer.injEq, Option.some.injEq, Addr.mk.injEq, and_true, true_and] at ha
    obtain ⟨⟨_, _, _, rfl⟩, rfl⟩ := ha
    obtain ⟨_, _, rfl, _⟩ := hw.uniq hw'
    exact h A' hf
  · cases ht
theorem con12 {A : ASt} {W now all a : Nat} {ms : List Nat} {M : TM} {name : ByteArray} (hw : WheelAt A W all ms now M) (halt : a < 18446744073709551616) {K : Value → ASt → Prop} (h : ∀ A', WheelAt A' W all ms now (if now < a then M.put name a else M) → Fr (W :: all :: ms) A A' → K (.bool (decide (now < a))) A') : conC R8 (.fn 12) [.pointer (some ⟨W, 0, none⟩), .string name, .int .u64 (a : Int)] A K := by
  refine ⟨⟨_, .inr ⟨W, now, all, a, ms, M, name, hw, halt, rfl, rfl, rfl⟩⟩, ?_⟩
  rintro S (⟨_, _, _, _, _, _, _, _, _, _, _, _, ht, _⟩ | ⟨W', now', all', a', ms', M', name', hw', _, _, ha, rfl⟩) v A' hv
  · cases ht
  · obtain ⟨rfl, hw2, hf⟩ := hv
    simp only [List.cons.injEq, Value.string.injEq, Value.int.injEq, Int.natCast_inj, Value.pointer.injEq, Option.some.injEq, Addr.mk.injEq, and_true, true_and] at ha
    obtain ⟨rfl, rfl, rfl⟩ := ha
    obtain ⟨rfl, rfl, rfl, rfl⟩ := hw.uniq hw'
    exact h A' hw2 hf

/-! ### acts in a slice -/
structure ActD where
  kind : Int
  name : ByteArray
  at_ : Nat
  by_ : Nat
def acells : List ActD → List Value
  | [] => []
  | x :: l => .int .i64 x.kind :: .string x.name :: .int .u64 (x.at_ : Int) :: .int .u64 (x.by_ : Int) :: acells l
theorem acells_get : ∀ (l : List ActD) (i : Nat) (x : ActD), l[i]? = some x → nth (acells l) (i * 4) = some (.int .i64 x.kind) ∧ nth (acells l) (i * 4 + 1) = some (.string x.name) ∧ nth (acells l) (i * 4 + 2) = some (.int .u64 (x.at_ : Int)) ∧ nth (acells l) (i * 4 + 3) = some (.int .u64 (x.by_ : Int)) ∧ cut (acells l) (i * 4) 4 = some [.int .i64 x.kind, .string x.name, .int .u64 (x.at_ : Int), .int .u64 (x.by_ : Int)]
  | [], i, x, h => by simp at h
  | y :: l, 0, x, h => by
    simp at h; subst h
    exact ⟨rfl, rfl, rfl, rfl, rfl⟩
  | y :: l, i + 1, x, h => by
    have ih := acells_get l i x (by simpa using h)
    have e : (i + 1) * 4 = i * 4 + 1 + 1 + 1 + 1 := by omega
    rw [e]
    obtain ⟨h1, h2, h3, h4, h5⟩ := ih
    refine ⟨h1, h2, h3, h4, ?_⟩
    simpa only [acells, cut, List.drop_succ_cons] using h5
end Go.Proofs.Ytpmpclieclcbdaa

/- The live question, wherever it is asked. -/
namespace Go.Proofs.Ytpmpclieclcbdaa
open Go Go.AE Go.Sort

variable {Z : Go.AE.Road}

theorem alive_run0 : ends isTrueV (run E0 20000 (.call (.fn 9) [] (startAt 0))) = true := by kernel_rfl
theorem alive_run : ∃ fuel, ends isTrueV (run E0 fuel (.call (.fn 9) [] (startAt 0))) = true := ⟨20000, alive_run0⟩

theorem alive_calls (w : World) : Calls Try.prog 9 #[] w fun e w' => e = .returned (.bool true) ∧ Go.RowKit.Below w.heap.size w w' ∧ w.drawn ≤ w'.drawn := by
  obtain ⟨fuel, hrun⟩ := alive_run
  have hall : (callBy (run E0 fuel) (.fn 9) [] (startAt 0)).all (fun r => isTrueV r.1 = true) := by
    have := ends_all hrun
    unfold callBy
    revert this
    generalize run E0 fuel (.call (.fn 9) [] (startAt 0)) = m
    intro this
    induction m with
    | ret o =>
      obtain ⟨v, A, rfl, hq⟩ := this
      exact hq
    | ask n k ih => exact fun i hi => ih i (this i hi)
    | fail s => exact this.elim
    | pick p k ih => exact fun r hr => ih r (this r hr)
  have h := CallW.of_run (Z := roadRaw [] w) (f := 9) (args := []) (A := startAt 0) (Q := fun v _ => isTrueV v = true) E0_ok E0_ro hook_none mixed hall
  refine (h (rawRen []) w #[] (Step.refl (rep_start [] w)) .nil).mono ?_
  rintro e w' ⟨v, A', v', ρ', hq, rfl, hv, hst⟩
  refine ⟨?_, Step.below (n := 0) hst, hst.drawn⟩
  cases hv <;> first | (simp [isTrueV] at hq; done) | skip
  rename_i b
  cases b with
  | true => rfl
  | false => cases hq

theorem alive_spec {A : ASt} : CallW Z Try.prog 9 [] A (fun v A' => v = .bool true ∧ A' = A) := by
  intro ρ w args' hR ha
  obtain ⟨l⟩ := args'
  cases ha
  refine (alive_calls w).mono ?_
  rintro e w' ⟨rfl, hb, hd⟩
  exact ⟨.bool true, A, .bool true, ρ, ⟨rfl, rfl⟩, rfl, .bool _, Step.of_below (Z.rep hR) hb hd⟩
end Go.Proofs.Ytpmpclieclcbdaa

/- Timers in a slice; an advance to the last tick; the maps' rows that are read alone. -/
namespace Go.Proofs.Ytpmpclieclcbdaa
open Go Go.AE Go.Sort

variable {Z : Go.AE.Road}
set_option maxRecDepth 10000

theorem wti {s : Spans} {t : TypeId} : (withRo E0 s).ti t = E0.ti t := congrArg (fun x => x) rfl
theorem wfn {s : Spans} {f : FuncId} : (withRo E0 s).fn f = E0.fn f := congrArg (fun x => x) rfl
theorem wbin {s : Spans} {op : BinOp} {t : TypeId} {xo yo : Operand} {x y : Value} : aBin2 (withRo E0 s) op t xo yo x y = aBin2 E0 op t xo yo x y := congrArg (fun x => x) rfl
theorem wbox {s : Spans} {t : TypeId} {v : Value} : aBox (withRo E0 s) t v = aBox E0 t v := congrArg (fun x => x) rfl
theorem wlen {s : Spans} {t : TypeId} {v : Value} {A : ASt} : aLen (withRo E0 s) t v A = aLen E0 t v A := congrArg (fun x => x) rfl
theorem wix {s : Spans} {t : TypeId} {x i : Value} : aIndexAddr (withRo E0 s) t x i = aIndexAddr E0 t x i := congrArg (fun x => x) rfl

theorem len30 {A : ASt} {b : Option Addr} {n c : Nat} : aLen E0 30 (.slice b n c) A = some (.int .i64 (n : Int)) := len_sl ti30 t30_desc
theorem ix30 {b len cap k off : Nat} (hk : k < len) : aIndexAddr E0 30 (.slice (some ⟨b, off, none⟩) len cap) (.int .i64 (k : Int)) = some (.pointer (some ⟨b, off + k * 2, none⟩)) := by
  have := indexAddr_sl (A := { heap := .e, next := 0 }) ti30 t30_desc ti33 (kd := .i64) (k := k) (b := b) (off := off) (len := len) (cap := cap) hk
  rwa [t33_size] at this

theorem tcells_nth : ∀ {ts : List (ByteArray × Nat)} {rest : List Value} {i : Nat} {t : ByteArray × Nat}, ts[i]? = some t → nth (tcells ts ++ rest) (i * 2) = some (.string t.1) ∧ nth (tcells ts ++ rest) (i * 2 + 1) = some (.int .u64 (t.2 : Nat))
  | [], rest, i, t, h => by simp at h
  | y :: l, rest, 0, t, h => by
    simp at h; subst h
    exact ⟨rfl, rfl⟩
  | y :: l, rest, i + 1, t, h => by
    have ih := tcells_nth (ts := l) (rest := rest) (i := i) (t := t) (by simpa using h)
    have e : (i + 1) * 2 = i * 2 + 1 + 1 := by omega
    rw [e]
    exact ih

theorem SliceAt.len {A A' : ASt} {lo : Nat} {v : Value} {ts : List (ByteArray × Nat)} (h : SliceAt A lo v ts) : aLen E0 30 v A' = some (.int .i64 (ts.length : Int)) := by
  rcases h with ⟨rfl, rfl⟩ | ⟨b, cap, rest, tl, rfl, _⟩
  · exact len30
  · exact len30
theorem SliceAt.ix {A : ASt} {lo : Nat} {v : Value} {ts : List (ByteArray × Nat)} (h : SliceAt A lo v ts) {i : Nat} (hi : i < ts.length) : ∃ b rest tl, aIndexAddr E0 30 v (.int .i64 (i : Int)) = some (.pointer (some ⟨b, i * 2, none⟩)) ∧ A.get b = some (.row (tcells ts ++ rest) 2 tl) := by
  rcases h with ⟨rfl, rfl⟩ | ⟨b, cap, rest, tl, rfl, hb, _⟩
  · simp at hi
  · exact ⟨b, rest, tl, by have := ix30 (b := b) (cap := cap) (off := 0) hi; rwa [Nat.zero_add] at this, hb⟩

/-- A timer's name in the list is its own alone. -/
theorem Lists.names {D : TM} {ts : List (ByteArray × Nat)} (h : Lists D ts) : (ts.map (·.1)).Nodup := by
  have hu : ∀ k a b, (k, a) ∈ ts → (k, b) ∈ ts → a = b := fun k a b h1 h2 => by
    have := ((h.mem k a).1 h1).symm.trans ((h.mem k b).1 h2)
    simpa using this
  have ho := h.ord
  clear h
  induction ts with
  | nil => simp
  | cons x l ih =>
    rw [List.pairwise_cons] at ho
    refine List.nodup_cons.2 ⟨fun hm => ?_, ih (fun k a b h1 h2 => hu k a b (by simp [h1]) (by simp [h2])) ho.2⟩
    obtain ⟨y, hy, e⟩ := List.mem_map.1 hm
    have h1 := ho.1 y hy
    have e' : y.1 = x.1 := e
    have h2 := hu x.1 x.2 y.2 (by simp) (List.mem_cons_of_mem _ (by rw [← e']; exact hy))
    have : x = y := Prod.ext e'.symm h2
    rw [this] at h1
    exact tlt_irr _ h1

theorem Lists.cnt {D : TM} {ts : List (ByteArray × Nat)} (h : Lists D ts) : Cnt D ts.length := by
  refine ⟨ts.map (·.1), h.names, fun k => ?_, by simp⟩
  constructor
  · intro hk
    obtain ⟨y, hy, rfl⟩ := List.mem_map.1 hk
    rw [(h.mem y.1 y.2).1 hy]; rfl
  · intro hk
    obtain ⟨a, ha⟩ := Option.isSome_iff_exists.1 hk
    exact List.mem_map.2 ⟨(k, a), (h.mem k a).2 ha, rfl⟩
theorem Cnt.uniq {M : TM} {n m : Nat} (h : Cnt M n) (k : Cnt M m) : n = m := by
  obtain ⟨l, h1, h2, h3⟩ := h
  obtain ⟨r, k1, k2, k3⟩ := k
  have a := nodup_leG h1 fun x hx => (k2 x).2 ((h2 x).1 hx)
  have b := nodup_leG k1 fun x hx => (h2 x).2 ((k2 x).1 hx)
  omega

/-- An advance to the last tick: all are due. -/
theorem adv_top {A : ASt} {W all now : Nat} {ms : List Nat} {M : TM} (h : WheelAt A W all ms now M) (hF : Few M) :
    CallW Z Try.prog 13 [.pointer (some ⟨W, 0, none⟩), .int .u64 18446744073709551615] A (fun v A' => ∃ ts, Lists M ts ∧ SliceAt A' A.next v ts ∧ WheelAt A' W all ms 18446744073709551615 (fun _ => none) ∧ Fr (W :: all :: ms) A A') := by
  have := advance_spec (Z := Z) h hF (nw := 18446744073709551615) (by omega)
  refine CallW.mono this ?_
  intro v A' hq
  have hn := h.nowlt
  rw [if_neg (by omega)] at hq
  have e1 : (fun k => (M k).filter fun a => decide (a ≤ 18446744073709551615)) = M := by
    funext k
    cases hk : M k with
    | none => rfl
    | some a =>
      have := h.lt k a hk
      simp only [Option.filter]
      rw [if_pos (by simp; omega)]
  have e2 : (fun k => (M k).filter fun a => decide (18446744073709551615 < a)) = fun _ => none := by
    funext k
    cases hk : M k with
    | none => rfl
    | some a =>
      have := h.lt k a hk
      simp only [Option.filter]
      rw [if_neg (by simp; omega)]
  rw [e1, e2] at hq
  exact hq
end Go.Proofs.Ytpmpclieclcbdaa

/- A slot's timers; the far ones; one list behind another. -/
namespace Go.Proofs.Ytpmpclieclcbdaa
open Go Go.AE Go.Sort

variable {Z : Go.AE.Road}
set_option maxRecDepth 10000


theorem Few.at_ {M : TM} (h : Few M) (now i : Nat) : Few (M.at_ now i) := by
  obtain ⟨l, h1, h2⟩ := h
  refine ⟨l, h1, fun k hk => h2 k ?_⟩
  unfold TM.at_ at hk
  cases hm : M k with
  | none => rw [hm] at hk; cases hk
  | some a => rfl

theorem slot_spec {A : ASt} {W all now L j : Nat} {ms : List Nat} {M : TM} (h : WheelAt A W all ms now M) (hF : Few M) (hL : L < 4) (hj : j < 16) :
    CallW Z Try.prog 24 [.pointer (some ⟨W, 0, none⟩), .int .i64 (L : Int), .int .i64 (j : Int)] A (Srt (M.at_ now (16 * L + j)) A) := by
  refine CallW.of_code E0_ok E0_ro fn24 rfl (n := 34) rfl (rs := [.tmp 6]) rfl (by simp) (codeW_ok E0_ok E0_ro ?_)
  have f1 : ((L : Int) < 0) = False := eq_false (by omega)
  have f2 : ((L : Int) ≥ 4) = False := eq_false (by omega)
  have f3 : ((j : Int) < 0) = False := eq_false (by omega)
  have f4 : ((j : Int) ≥ 16) = False := eq_false (by omega)
  have hW := h.row
  have ei1 : ∀ o, aIndexAddr E0 61 (.pointer (some ⟨W, o, none⟩)) (.int .i64 (L : Int)) = some (.pointer (some ⟨W, o + L * 16, none⟩)) := fun o => by
    have := indexAddr_arr (A := A) ti61 t61_desc ti60 (kd := .i64) (k := L) (b := W) (off := o) hL
    rwa [t60_size] at this
  have ei2 : ∀ o, aIndexAddr E0 60 (.pointer (some ⟨W, o, none⟩)) (.int .i64 (j : Int)) = some (.pointer (some ⟨W, o + j, none⟩)) := fun o => by
    have := indexAddr_arr (A := A) ti60 t60_desc ti59 (kd := .i64) (k := j) (b := W) (off := o) hj
    rwa [t59_size, Nat.mul_one] at this
  have hlt : 16 * L + j < ms.length := by rw [h.len]; omega
  have esl : nth (wrow now all ms) (2 + L * 16 + j) = some (.map (some (ms[16 * L + j]'hlt))) := by
    have := wrow_slot (now := now) (all := all) (ms := ms) (k := 16 * L + j) hlt
    rw [← this]
    congr 1; omega
  have hm : ms[16 * L + j]? = some (ms[16 * L + j]'hlt) := List.getElem?_eq_getElem _
  generalize ms[16 * L + j]'hlt = m at esl hm
  simp only [hW, oneW_next, s_0, s_1, s_2, s_3, s_4, Hands, handsV, resultsV, oneOrTuple, argsT, ev, evs, evPairs, evOpt, closed, flat, nth, aCall, aEnter, notYield, aNilCheck, aLoad, partV, isAggD, aFieldAddr, aField, aExtract, Option.isNone, aBuiltin, cond_true, cond_false, cond_dec, if_true, if_false, List.length_cons, List.length_nil, forall_const, implies_true, List.append_nil, List.cons_append, List.nil_append, eq_self, Nat.reduceEqDiff, Nat.reduceAdd, Nat.reduceMul, Nat.reduceSub, Nat.reduceLT, Nat.reduceLeDiff, Nat.reduceBEq, reduceIte, reduceCtorEq, ti63, t63_desc, t63_size, ti25, t25_desc, ti22, t22_desc, t22_size, ti59, t59_desc, t59_size, ti60, t60_desc, t60_size, ti61, t61_desc, t61_size, ti3, t3_desc, t3_size, ti40, t40_desc, t40_size, ti33, t33_desc, t33_size, ti9, t9_desc, t9_size, wrow_now, wrow_all, eqnil25, fn17, fn26, fn27, fn28, fn29, fn38, fn39, fn12, fn14, fn15, eqnil25, f1, f2, f3, f4, ei1, ei2, esl]
  refine CallT.mono (sorted_spec (h.slot _ _ hm) (hF.at_ _ _) (h.below m (by simp [List.mem_of_getElem? hm]))) ?_
  intro v A' hs
  simp only [oneW_next, s_0, s_1, s_2, s_3, s_4, Hands, handsV, resultsV, oneOrTuple, argsT, ev, evs, evPairs, evOpt, closed, flat, nth, aCall, aEnter, notYield, aNilCheck, aLoad, partV, isAggD, aFieldAddr, aField, aExtract, Option.isNone, aBuiltin, cond_true, cond_false, cond_dec, if_true, if_false, List.length_cons, List.length_nil, forall_const, implies_true, List.append_nil, List.cons_append, List.nil_append, eq_self, Nat.reduceEqDiff, Nat.reduceAdd, Nat.reduceMul, Nat.reduceSub, Nat.reduceLT, Nat.reduceLeDiff, Nat.reduceBEq, reduceIte, reduceCtorEq, ti63, t63_desc, t63_size, ti25, t25_desc, ti22, t22_desc, t22_size, ti59, t59_desc, t59_size, ti60, t60_desc, t60_size, ti61, t61_desc, t61_size, ti3, t3_desc, t3_size, ti40, t40_desc, t40_size, ti33, t33_desc, t33_size, ti9, t9_desc, t9_size, wrow_now, wrow_all, eqnil25, fn17, fn26, fn27, fn28, fn29, fn38, fn39, fn12, fn14, fn15]
  exact hs

theorem far_spec {A : ASt} {W all now : Nat} {ms : List Nat} {M : TM} (h : WheelAt A W all ms now M) (hF : Few M) :
    CallW Z Try.prog 25 [.pointer (some ⟨W, 0, none⟩)] A (Srt (M.at_ now 64) A) := by
  refine CallW.of_code E0_ok E0_ro fn25 rfl (n := 10) rfl (rs := [.tmp 2]) rfl (by simp) (codeW_ok E0_ok E0_ro ?_)
  have hW := h.row
  have hlt : 64 < ms.length := by rw [h.len]; omega
  have esl : nth (wrow now all ms) (2 + 64) = some (.map (some (ms[64]'hlt))) := wrow_slot hlt
  have hm : ms[64]? = some (ms[64]'hlt) := List.getElem?_eq_getElem _
  generalize ms[64]'hlt = m at esl hm
  simp only [hW, oneW_next, s_0, s_1, s_2, s_3, s_4, Hands, handsV, resultsV, oneOrTuple, argsT, ev, evs, evPairs, evOpt, closed, flat, nth, aCall, aEnter, notYield, aNilCheck, aLoad, partV, isAggD, aFieldAddr, aField, aExtract, Option.isNone, aBuiltin, cond_true, cond_false, cond_dec, if_true, if_false, List.length_cons, List.length_nil, forall_const, implies_true, List.append_nil, List.cons_append, List.nil_append, eq_self, Nat.reduceEqDiff, Nat.reduceAdd, Nat.reduceMul, Nat.reduceSub, Nat.reduceLT, Nat.reduceLeDiff, Nat.reduceBEq, reduceIte, reduceCtorEq, ti63, t63_desc, t63_size, ti25, t25_desc, ti22, t22_desc, t22_size, ti59, t59_desc, t59_size, ti60, t60_desc, t60_size, ti61, t61_desc, t61_size, ti3, t3_desc, t3_size, ti40, t40_desc, t40_size, ti33, t33_desc, t33_size, ti9, t9_desc, t9_size, wrow_now, wrow_all, eqnil25, fn17, fn26, fn27, fn28, fn29, fn38, fn39, fn12, fn14, fn15, eqnil25, esl]
  refine CallT.mono (sorted_spec (h.slot _ _ hm) (hF.at_ _ _) (h.below m (by simp [List.mem_of_getElem? hm]))) ?_
  intro v A' hs
  simp only [oneW_next, s_0, s_1, s_2, s_3, s_4, Hands, handsV, resultsV, oneOrTuple, argsT, ev, evs, evPairs, evOpt, closed, flat, nth, aCall, aEnter, notYield, aNilCheck, aLoad, partV, isAggD, aFieldAddr, aField, aExtract, Option.isNone, aBuiltin, cond_true, cond_false, cond_dec, if_true, if_false, List.length_cons, List.length_nil, forall_const, implies_true, List.append_nil, List.cons_append, List.nil_append, eq_self, Nat.reduceEqDiff, Nat.reduceAdd, Nat.reduceMul, Nat.reduceSub, Nat.reduceLT, Nat.reduceLeDiff, Nat.reduceBEq, reduceIte, reduceCtorEq, ti63, t63_desc, t63_size, ti25, t25_desc, ti22, t22_desc, t22_size, ti59, t59_desc, t59_size, ti60, t60_desc, t60_size, ti61, t61_desc, t61_size, ti3, t3_desc, t3_size, ti40, t40_desc, t40_size, ti33, t33_desc, t33_size, ti9, t9_desc, t9_size, wrow_now, wrow_all, eqnil25, fn17, fn26, fn27, fn28, fn29, fn38, fn39, fn12, fn14, fn15]
  exact hs
end Go.Proofs.Ytpmpclieclcbdaa
